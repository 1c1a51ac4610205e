/-
 Elements of array values and of strings; copies.
-/
import Derived.Test.YtjgaokcplofimaaDoorSepI
namespace Go.Sep
section
variable {P : Program} {ρ : Option Nat} {ops : Array Oper} {Q : Exit → Act → World → Prop} {a : Act} {n : Nat} {ds : List Deferred} {E : List (Nat × Value)}
variable {g w w0 : World} {D D0 : Snap} {L L0 : List Blk} {i : Nat} {o : Oper} {d : Nat} {C : Act → World → Prop} {C1 : Act → Prop} {R : World → World → Prop}
theorem vlist_get {N : Nat} {v : Vector Int N} {m : Nat} {y : Int} (h : (vlist v)[m]? = some y) : m < N ∧ y = vget v m := by
 obtain ⟨h1, h2⟩ := List.getElem?_eq_some_iff.1 h
 simp [vlist] at h1 h2
 exact ⟨h1, h2.symm⟩
/-- 'index' of an array's value -/
theorem tk_indexA {t N : Nat} {x ix : Operand} {kk k : IntKind} {v : Vector Int N} {m y : Int} (ho : ops[i]? = some o) (hop : o.op = .index t x ix) (hg : guardOf ops E o = some true) (hd : o.dst = some d) (hE : Env a n ds E) (hn : Nat.blt d n = true)
  (hx : evalO E x = some (.agg (List.toArray (acells k N v)))) (hix : evalO E ix = some (.int kk m)) (hT : arrIntT P t = some (N, k)) (hy : getI (vlist v) m = some y)
  (c : ∀ a, Env a n ds ((d, .int k y) :: E) → C1 a) : Tk P ops R i n ds E a w C1 := by
 obtain ⟨e, ii, h1, h2, h3, h4⟩ := arrIntT_spec hT
 obtain ⟨h0, hy'⟩ := getI_some hy
 obtain ⟨hlt, rfl⟩ := vlist_get hy'
 have hltI : m < (N : Int) := by omega
 refine tk_of (v := .int k (vget v m.toNat)) hE ho hg hd hn (by simp [hop, noDefer]) (fun w' _ => ?_) c
 have hp := part_acells (P := P) h2 v hlt w'
 simp [execOp, hop, hE.eval hx, hE.eval hix, Instr.index, asIntOf, run_underlying' h1, h0, hltI, Go.sizeOf, typeInfo, h3, h4]
 rw [Nat.mul_one] at hp
 rw [hp]; rfl
def arT2 (P : Program) (t : TypeId) : Option (Nat × TypeId × Nat) :=
 match P.underlying t with
 | some (.array N e) => match P.info? e with
  | some i => some (N, e, i.size)
  | none => none
 | _ => none
theorem arT2_spec {t N e sz : Nat} (h : arT2 P t = some (N, e, sz)) : ∃ i, P.underlying t = some (.array N e) ∧ P.info? e = some i ∧ i.size = sz := by
 unfold arT2 at h
 split at h
 ·rename_i hu
  split at h
  ·rename_i i h2
   simp only [Option.some.injEq, Prod.mk.injEq] at h
   obtain ⟨rfl, rfl, rfl⟩ := h
   exact ⟨i, hu, h2, rfl⟩
  ·cases h
 ·cases h
/-- 'index' of an array's value, at a place that is known -/
theorem tk_indexV {t N e sz : Nat} {x ix : Operand} {kk : IntKind} {cs : List Value} {m : Int} (j : Nat) (v : Value) (ho : ops[i]? = some o) (hop : o.op = .index t x ix) (hg : guardOf ops E o = some true) (hd : o.dst = some d) (hE : Env a n ds E) (hn : Nat.blt d n = true)
  (hx : evalO E x = some (.agg (List.toArray cs))) (hix : evalO E ix = some (.int kk m)) (hm : m = (j : Int)) (hT : arT2 P t = some (N, e, sz)) (hj : Nat.blt j N = true) (hv : ldv P e cs (j * sz) = some v)
  (c : ∀ a, Env a n ds ((d, v) :: E) → C1 a) : Tk P ops R i n ds E a w C1 := by
 obtain ⟨ii, h1, h3, rfl⟩ := arT2_spec hT
 subst hm
 have hlt : j < N := by simpa [Nat.blt_eq] using hj
 refine tk_of (v := v) hE ho hg hd hn (by simp [hop, noDefer]) (fun w' _ => ?_) c
 have hp := part_run hv w'
 simp [execOp, hop, hE.eval hx, hE.eval hix, Instr.index, asIntOf, run_underlying' h1, hlt, Go.sizeOf, typeInfo, h3]
 rw [hp]; rfl
end
/-- the fields of a struct's type -/
def structFs (P : Program) (t : TypeId) : List Field :=
 match P.underlying t with
 | some (.struct fs) => fs.toList
 | _ => []
section
variable {P : Program} {ρ : Option Nat} {ops : Array Oper} {Rf : Nat → World → World → Prop} {K : Act → World → Prop} {a : Act} {w : World}
/-- two operations may come up -/
theorem twoG {i j : Nat} {fuel : Nat} {listed l1 l2 : Array Bool} (hr : Region.ready .any ops listed = [i, j]) (h1 : listed.setIfInBounds i true = l1) (h2 : listed.setIfInBounds j true = l2)
  (ki : Op1 P ρ ops (Qn K) i (fun a' w' => Rf i w w' ∧ wpG P ρ ops Rf K (Qn K) fuel l1 a' w') a w)
  (kj : Op1 P ρ ops (Qn K) j (fun a' w' => Rf j w w' ∧ wpG P ρ ops Rf K (Qn K) fuel l2 a' w') a w) : wpG P ρ ops Rf K (Qn K) (fuel + 1) listed a w := by
 subst h1; subst h2
 refine ⟨fun h0 => (by rw [hr] at h0; cases h0), fun x hx => ?_⟩
 rw [hr] at hx
 rcases List.mem_cons.1 hx with rfl | hx
 ·exact ki
 ·rcases List.mem_cons.1 hx with rfl | hx
  ·exact kj
  ·cases hx
end
/-- blocks that may be written, and have come back as they were -/
def SubK (w w' : World) (M' : List Nat) : List Nat → Prop
 | [] => True
 | b :: l => (b ∈ M' ∨ w'.heap[b]? = w.heap[b]?) ∧ SubK w w' M' l
theorem SubK.at_ {w w' : World} {M' : List Nat} : ∀ {l : List Nat}, SubK w w' M' l → ∀ b, b ∈ l → b ∈ M' ∨ w'.heap[b]? = w.heap[b]? := by
 intro l
 induction l with
 | nil => intro _ b hb; cases hb
 | cons c l ih =>
  intro h b hb
  rcases List.mem_cons.1 hb with rfl | hb
  ·exact h.1
  ·exact ih h.2 b hb
theorem Keeps.sub {M M' : List Nat} {w w' : World} (h : Keeps M w w') (hs : SubK w w' M' M) : Keeps M' w w' := ⟨h.1, fun b hb hn => by
 by_cases hm : b ∈ M
 ·rcases hs.at_ b hm with h1 | h1
  ·exact absurd h1 hn
  ·exact h1
 ·exact h.2 b hb hm⟩
/-! ### what the operations of a drawn region write -/
def mfOf : List (Nat × List Nat) → Nat → List Nat
 | [], _ => []
 | (k, l) :: t, j => bif Nat.beq k j then l else mfOf t j
def mfAll : List (Nat × List Nat) → List Nat
 | [] => []
 | (_, l) :: t => l ++ mfAll t
def inB (k : Nat) : List Nat → Bool
 | [] => false
 | x :: l => bif Nat.beq x k then true else inB k l
def mfSel (keys : List Nat) : List (Nat × List Nat) → List Nat
 | [] => []
 | (k, l) :: t => bif inB k keys then l ++ mfSel keys t else mfSel keys t
theorem mfSel_mem {keys : List Nat} : ∀ (t : List (Nat × List Nat)) (j b : Nat), inB j keys = true → b ∈ mfOf t j → b ∈ mfSel keys t := by
 intro t
 induction t with
 | nil => intro j b _ h; cases h
 | cons x t ih =>
  intro j b hj h
  simp only [mfOf] at h
  simp only [mfSel]
  cases hk : Nat.beq x.1 j with
  | true =>
   have : x.1 = j := Nat.eq_of_beq_eq_true hk
   rw [hk] at h
   rw [this, hj]
   exact List.mem_append_left _ h
  | false =>
   rw [hk] at h
   cases inB x.1 keys with
   | true => exact List.mem_append_right _ (ih j b hj h)
   | false => exact ih j b hj h
/-- what could come up ahead of the i-th operation and writes is among these -/
def pendB (Mf : Nat → List Nat) (keys : List Nat) (ops : Array Oper) (listed : Array Bool) (i : Nat) : Bool :=
 (List.range ops.size).all fun j => j == i || listed.getD j true || inB j keys || match ops[j]? with
  | some oj => oj.after.any (fun e => Region.binds .any e && e.on == i) || (Mf j).isEmpty
  | none => true
theorem pendB_spec {Mf : Nat → List Nat} {keys : List Nat} {ops : Array Oper} {i : Nat} {listed : Array Bool} (h : pendB Mf keys ops listed i = true) (j : Nat) (oj : Oper)
  (hj : ops[j]? = some oj) (hne : j ≠ i) (hun : listed.getD j true = false) (hno : ∀ e ∈ oj.after, Region.binds .any e = true → e.on ≠ i) : inB j keys = true ∨ Mf j = [] := by
 simp only [pendB, List.all_eq_true, List.mem_range] at h
 have h1 := h j (Array.getElem?_eq_some_iff.1 hj).1
 simp only [hj, Bool.or_eq_true, beq_iff_eq, hne, false_or, hun, Bool.false_eq_true] at h1
 rcases h1 with h1 | h1 | h1
 ·exact .inl h1
 ·rw [← Array.any_toList] at h1
  obtain ⟨e, he, hb⟩ := List.any_eq_true.1 h1
  simp only [Bool.and_eq_true, beq_iff_eq] at hb
  exact absurd hb.2 (hno e (Array.mem_toList_iff.1 he) hb.1)
 ·exact .inr (by simpa using h1)
section
variable {P : Program} {ρ : Option Nat} {ops : Array Oper} {K : Act → World → Prop} {a : Act} {w : World} {n : Nat} {ds : List Deferred} {E : List (Nat × Value)}
/-- an operation that reads blocks that none of those writes that could come up ahead of it -/
theorem takeN {T : List (Nat × List Nat)} (keys : List Nat) (i : Nat) {fuel : Nat} {listed : Array Bool} (listed' : Array Bool) (hs : noSelDef ops = true) (hf : Region.free .any ops listed i = true) (hr : (Region.ready .any ops listed).contains i = true) (hl : listed.setIfInBounds i true = listed') (hc : pendB (mfOf T) keys ops listed i = true)
  (hE : Env a n ds E) (h : Tk P ops (Keeps (mfSel keys T)) i n ds E a w (fun a => wpG P ρ ops (fun j => Keeps (mfOf T j)) K (Qn K) fuel listed' a w)) : wpG P ρ ops (fun j => Keeps (mfOf T j)) K (Qn K) (fuel + 1) listed a w :=
 takeR (R := Keeps (mfSel keys T)) (Keeps.refl _) (fun _ _ _ h h' => h.trans h') (fun j w => Keeps.refl (mfOf T j) w) i listed' hs hf hr hl (fun j oj hj hne hun hno _ _ hk => by
  rcases pendB_spec hc j oj hj hne hun hno with h1 | h1
  ·exact hk.mono (fun b hb => mfSel_mem T j b h1 hb)
  ·simp only [h1] at hk
   exact hk.mono (fun _ h => absurd h List.not_mem_nil)) hE h
end
theorem nm_cons {b c : Nat} {l : List Nat} (h : b ≠ c) (t : b ∉ l) : b ∉ c :: l := fun hm => by
 rcases List.mem_cons.1 hm with e | e
 ·exact h e
 ·exact t e
theorem dn_nil {D : Snap} : ∀ m, m ∈ ([] : List Nat) → ∀ p, D m = some p → oupto 0 p := fun _ h => absurd h List.not_mem_nil
end Go.Sep
