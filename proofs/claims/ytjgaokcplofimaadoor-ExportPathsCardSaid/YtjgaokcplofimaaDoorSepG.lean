/-
 Elements of a slice that is owned; comparisons; what the library's small functions are made of.
-/
import Derived.Test.YtjgaokcplofimaaDoorSepF
namespace Go.Sep
theorem some_pair {b b' : Nat} {u u' : OB} (h : (some (b, u) : Blk) = some (b', u')) : b = b' ∧ u = u' := by
 cases h; exact ⟨rfl, rfl⟩
section
variable {P : Program} {ρ : Option Nat} {ops : Array Oper} {Q : Exit → Act → World → Prop} {a : Act} {n : Nat} {ds : List Deferred} {E : List (Nat × Value)}
variable {g w w0 : World} {D D0 : Snap} {L L0 : List Blk} {i : Nat} {o : Oper} {d : Nat} {C : Act → World → Prop} {C1 : Act → Prop} {R : World → World → Prop}
variable {α : Type} {K : Kd α}
/-- 'indexAddr' into a slice that is owned -/
theorem tk_indexO {T t by_ zl : Nat} {x ix : Operand} {A : Option Addr} {cap : Nat} {l : List α} {q : Blk} {m : Int} {kk : IntKind} {y : α} (ho : ops[i]? = some o) (hop : o.op = .indexAddr t x ix) (hg : guardOf ops E o = some true) (hd : o.dst = some d) (hE : Env a n ds E) (hn : Nat.blt d n = true)
  (hx : evalO E x = some (.slice A l.length cap)) (hix : evalO E ix = some (.int kk m)) (hT : slT P t = some (T, K.n, by_, zl)) (hl : OwnD K T D A cap l q) (hy : getI l m = some y)
  (k : ∀ a b u, q = some (b, u) → Env a n ds ((d, .pointer (some ⟨b, m.toNat * K.n, none⟩)) :: E) → C1 a) : Tk P ops R i n ds E a w C1 := by
 obtain ⟨h1, ii, z, h2, _, h4, _⟩ := slT_spec hT
 obtain ⟨h0, hy'⟩ := getI_some hy
 have hlt := (List.getElem?_eq_some_iff.1 hy').1
 obtain ⟨cs, hO, hr⟩ := hl
 cases q with
 | none => have := (hO.2.2.2.2 rfl).2; omega
 | some p =>
  obtain ⟨b, u⟩ := p
  obtain ⟨rfl, _⟩ := hO
  have hltI : m < (l.length : Int) := by omega
  refine tk_of (v := .pointer (some ⟨b, m.toNat * K.n, none⟩)) hE ho hg hd hn (by simp [hop, noDefer]) (fun w' _ => ?_) (fun a' h' => k a' b u rfl h')
  simp [execOp, hop, hE.eval hx, hE.eval hix, Instr.indexAt, asIntOf, run_underlying' h1, h0, hltI, sizeOf, typeInfo, h2, h4, addr_add]
theorem OwnD.cell {T : Nat} {A : Option Addr} {cap : Nat} {l : List α} {b : Nat} {u : OB} {m : Int} {y : α} (h : OwnD K T D A cap l (some (b, u))) (hy : getI l m = some y) :
  ∃ cs Cl, K.r D y cs ∧ u = (.cells Cl T (0, 0), 0) ∧ ∀ j v, cs[j]? = some v → Cl[m.toNat * K.n + j]? = some v := by
 obtain ⟨cs, ⟨_, _, _, hcl, Cl, k0, rfl, _, hk0, _, ht⟩, hr⟩ := h
 obtain rfl := hk0 rfl
 obtain ⟨h0, hy'⟩ := getI_some hy
 obtain ⟨c, hc, hj⟩ := hr.at_ hy'
 refine ⟨c, Cl, hc, rfl, fun j v hv => ?_⟩
 have := hj j v hv
 rw [← ht, List.getElem?_take] at this
 split at this
 ·simpa using this
 ·cases this
/-- 'load' of cells that lie in an owned block -/
theorem tk_loadO (j : Nat) {t : TypeId} {x : Operand} {b off0 off : Nat} {c : List Value} {Cl : Array Value} {T : TypeId} {fr : Nat × Nat} {n0 : Nat} (v : Value) (ho : ops[i]? = some o) (hop : o.op = .load t x) (hg : guardOf ops E o = some true) (hd : o.dst = some d) (hE : Env a n ds E) (hn : Nat.blt d n = true)
  (hS : Stp g w0 D0 L0 w D L) (hx : evalO E x = some (.pointer (some ⟨b, off0 + off, none⟩))) (hb : L[j]? = some (some (b, (.cells Cl T fr, n0)))) (hc : ∀ j u, c[j]? = some u → Cl[off0 + j]? = some u) (hv : ldv P t c off = some v) (hM : ∀ w', R w w' → w'.heap[b]? = w.heap[b]?)
  (k : ∀ a, Env a n ds ((d, v) :: E) → C1 a) : Tk P ops R i n ds E a w C1 := by
 refine tk_of (v := v) hE ho hg hd hn (by simp [hop, noDefer]) (fun w' hk => ?_) k
 simp [execOp, hop, hE.eval hx, Instr.loadAt, Instr.sureAddr, ldv_run' (w := w') ((hM w' hk).trans (hS.heapAt hb)) hc hv]
theorem RL.set : ∀ {l : List α} {cs c : List Value} {m : Nat} {x : α}, RL K D l cs → m < l.length → K.r D x c → RL K D (l.set m x) (cs.take (m * K.n) ++ c ++ cs.drop (m * K.n + c.length)) := by
 intro l
 induction l with
 | nil => intro cs c m x _ hm; simp at hm
 | cons y l ih =>
  intro cs c m x h hm hx
  obtain ⟨c1, c2, rfl, h1, h2⟩ := h
  have hn := K.len _ _ _ h1
  have hc := K.len _ _ _ hx
  cases m with
  | zero =>
   refine ⟨c, c2, ?_, hx, h2⟩
   simp only [Nat.zero_mul, Nat.zero_add, List.take_zero, List.nil_append]
   rw [hc, ← hn, List.drop_left]
  | succ m =>
   refine ⟨c1, _, ?_, h1, ih h2 (by simpa using hm) hx⟩
   have e : (m + 1) * K.n = c1.length + m * K.n := by rw [Nat.succ_mul, hn, Nat.add_comm]
   rw [e, List.take_length_add_append, Nat.add_assoc, List.drop_length_add_append]
   simp
def inI {α : Type} (l : List α) (m : Int) : Prop := 0 ≤ m ∧ m.toNat < l.length
theorem inI_of {l : List α} {m : Int} {y : α} (h : getI l m = some y) : inI l m := ⟨(getI_some h).1, (List.getElem?_eq_some_iff.1 (getI_some h).2).1⟩
/-- 'store' into an element of a slice that is owned, the front one -/
theorem op_storeO {t : TypeId} {yo x : Operand} {T : TypeId} {A : Option Addr} {cap : Nat} {l : List α} {b : Nat} {u : OB} {m : Int} (xd : α) {v : Value} (ho : ops[i]? = some o) (hop : o.op = .store t yo x) (hg : guardOf ops E o = some true) (hd : o.dst = none) (hE : Env a n ds E)
  (hS : Stp g w0 D0 L0 w D (some (b, u) :: L)) (hown : OwnD K T D A cap l (some (b, u))) (hyo : evalO E yo = some (.pointer (some ⟨b, m.toNat * K.n, none⟩))) (hx : evalO E x = some v) (hin : inI l m) (hr : K.r D xd (vcells v)) (hsz : P.cellsOf t = K.n) (hty : (P.info? t).isSome = true)
  (k : ∀ a u' w', Keeps [b] w w' → Env a n ds E → OwnD K T D A cap (l.set m.toNat xd) (some (b, u')) → Stp g w0 D0 L0 w' D (some (b, u') :: L) → C a w') : Op1 P ρ ops Q i C a w := by
 obtain ⟨cs, ⟨hA, h1, h2, hcl, Cl, k0, rfl, _, hk0, hC, ht⟩, hrl⟩ := hown
 obtain rfl := hk0 rfl
 obtain ⟨h0, hlt⟩ := hin
 have hvl := K.len _ _ _ hr
 have hfit : m.toNat * K.n + (vcells v).length ≤ Cl.size := by
  rw [hvl, hC, ← Nat.succ_mul]; exact Nat.mul_le_mul_right _ (by omega)
 obtain ⟨ii, hi⟩ := Option.isSome_iff_exists.1 hty
 have hs : ii.size = (vcells v).length := by rw [hvl]; simpa [Program.cellsOf, hi] using hsz
 have hst := run_storeCells_at P b (m.toNat * K.n) T (vcells v) 0 Cl w hS.heap0 (by simpa using hfit) (fun z hz => K.one _ _ _ hr z hz)
 simp only [Nat.add_zero] at hst
 refine op_unit (w' := w.setRow b (Cl.toList.take (m.toNat * K.n) ++ vcells v ++ Cl.toList.drop (m.toNat * K.n + (vcells v).length)).toArray) hE ho hg (by simp [hd, dstOk]) (by simp [hop, noDefer]) ?_ ?_
 ·simp [execOp, hop, hE.eval hx, hE.eval hyo, Instr.storeAt, Instr.sureAddr, storeVar, sizeOf, typeInfo, hi, hs, vcells_eq, hst]
 ·rw [hd]
  intro a' h'
  refine k a' _ _ ⟨by simp, fun k _ hk => setRow_other w b k _ (by simpa using hk)⟩ h' ⟨cs.take (m.toNat * K.n) ++ vcells v ++ cs.drop (m.toNat * K.n + (vcells v).length), ⟨hA, by simpa using h1, h2, ?_, _, 0, rfl, Nat.zero_le _, fun _ => rfl, ?_, ?_⟩, hrl.set hlt hr⟩ (hS.put0 (by simp) rfl rfl rfl (setRow_heap w b Cl _ T _ hS.heap0) (fun k hk => setRow_other w b k _ hk))
  ·have : (m.toNat + 1) * K.n ≤ l.length * K.n := Nat.mul_le_mul_right _ (by omega)
   rw [Nat.succ_mul] at this
   simp only [List.length_append, List.length_take, List.length_drop, List.length_set, hcl, hvl]
   omega
  ·simp; omega
  ·have hle : m.toNat * K.n + (vcells v).length ≤ l.length * K.n := by
    rw [hvl, ← Nat.succ_mul]; exact Nat.mul_le_mul_right _ (by omega)
   have hCl : l.length * K.n ≤ Cl.size := by rw [hC]; exact Nat.mul_le_mul_right _ h1
   rw [List.length_set, ← ht]
   apply List.ext_getElem?
   intro j
   simp only [List.getElem?_take, List.getElem?_append, List.length_take, List.getElem?_drop, Array.length_toList, List.append_assoc]
   have e1 : min (m.toNat * K.n) Cl.size = m.toNat * K.n := by omega
   have e2 : min (m.toNat * K.n) (min (l.length * K.n) Cl.size) = m.toNat * K.n := by omega
   simp only [e1, e2]
   by_cases c1 : j < l.length * K.n
   ·simp only [c1, if_true]
    by_cases c2 : j < m.toNat * K.n
    ·simp [c2]
    ·simp only [c2, if_false]
     by_cases c3 : j - m.toNat * K.n < (vcells v).length
     ·simp [c3]
     ·simp only [c3, if_false]
      rw [if_pos (by omega)]
   ·simp only [c1, if_false]
    rw [if_neg (by omega), if_neg (by omega), if_neg (by omega)]
/-! ### comparisons -/
theorem tk_bin {op : BinOp} {xt yt : TypeId} {x y : Operand} {u v r : Value} (ho : ops[i]? = some o) (hop : o.op = .binOp op xt x y yt) (hg : guardOf ops E o = some true) (hd : o.dst = some d) (hE : Env a n ds E) (hn : Nat.blt d n = true)
  (hx : evalO E x = some u) (hy : evalO E y = some v) (hr : ∀ w, (do eqGuard op xt x y u v; binOp op xt u v : Sem Value).run P w = .ok r w)
  (k : ∀ a, Env a n ds ((d, r) :: E) → C1 a) : Tk P ops R i n ds E a w C1 := by
 refine tk_of (v := r) hE ho hg hd hn (by simp [hop, noDefer]) (fun w' _ => ?_) k
 have := hr w'
 simp only [execOp, hop, hE.eval hx, hE.eval hy]
 rw [Sem.run_bind, this]
 rfl
def boolT (P : Program) (t : TypeId) : Bool := match P.underlying t with | some .bool => true | _ => false
theorem boolT_spec {t : TypeId} (h : boolT P t = true) : P.underlying t = some .bool := by unfold boolT at h; split at h <;> first | assumption | cases h
theorem guard_run {op : BinOp} {t : TypeId} {x y : Operand} {u v : Value} (h : match u, v with | .nilIface, .nilIface => False | .agg _, .agg _ => False | _, _ => True) (w : World) : (eqGuard op t x y u v).run P w = .ok () w := by
 unfold eqGuard
 cases op <;> simp only [Bool.not_true, Bool.not_false, Bool.false_eq_true, if_true, if_false, Sem.run_pure] <;> try rfl
 all_goals
  cases u <;> cases v <;> first | rfl | exact h.elim
theorem bin_run {op : BinOp} {t : TypeId} {x y : Operand} {u v r : Value} (hg : ∀ w, (eqGuard op t x y u v).run P w = .ok () w) (h : ∀ w, (binOp op t u v).run P w = .ok r w) (w : World) : (do eqGuard op t x y u v; binOp op t u v : Sem Value).run P w = .ok r w := by
 rw [Sem.run_bind, hg]
 exact h w
theorem equal_one {t : TypeId} {u v : Value} : Op.equal t u v = Op.equalIn (9999 + 1) t u v := rfl
def sliceT (P : Program) (t : TypeId) : Bool := match P.underlying t with | some (.slice _) => true | _ => false
theorem sliceT_spec {t : TypeId} (h : sliceT P t = true) : ∃ e, P.underlying t = some (.slice e) := by unfold sliceT at h; split at h <;> first | exact ⟨_, by assumption⟩ | cases h
theorem eqnil_run {t : TypeId} {x y : Operand} (hT : sliceT P t = true) (A : Option Addr) (m c : Nat) (w : World) : (do eqGuard .eql t x y (.slice A m c) (.slice none 0 0); binOp .eql t (.slice A m c) (.slice none 0 0) : Sem Value).run P w = .ok (.bool A.isNone) w := by
 obtain ⟨e, he⟩ := sliceT_spec hT
 refine bin_run (guard_run trivial) (fun w => ?_) w
 show (do pure (.bool (← Op.equal t (.slice A m c) (.slice none 0 0))) : Sem Value).run P w = _
 rw [equal_one, Op.equalIn]
 cases A <;> simp [run_underlying' he]
/-- two arrays of numbers -/
theorem part_acells {t : TypeId} {k : IntKind} {N : Nat} (hT : P.underlying t = some (.int k)) (v : Vector Int N) {j : Nat} (hj : j < N) (w : World) : (part t (acells k N v).toArray (j * 1)).run P w = .ok (.int k (vget v j)) w := by
 simp [part, isAgg, run_underlying' hT, acells, hj]
def arrIntT (P : Program) (t : TypeId) : Option (Nat × IntKind) :=
 match P.underlying t with
 | some (.array N e) => match P.underlying e, P.info? e with
  | some (.int k), some i => bif Nat.beq i.size 1 then some (N, k) else none
  | _, _ => none
 | _ => none
theorem arrIntT_spec {t N : Nat} {k : IntKind} (h : arrIntT P t = some (N, k)) : ∃ e i, P.underlying t = some (.array N e) ∧ P.underlying e = some (.int k) ∧ P.info? e = some i ∧ i.size = 1 := by
 unfold arrIntT at h
 split at h
 ·rename_i hu
  split at h
  ·rename_i i h1 h2
   cases hb : Nat.beq i.size 1 with
   | false => rw [hb] at h; cases h
   | true =>
    rw [hb] at h
    simp only [cond_true, Option.some.injEq, Prod.mk.injEq] at h
    obtain ⟨rfl, rfl⟩ := h
    exact ⟨_, i, hu, h1, h2, Nat.eq_of_beq_eq_true hb⟩
  ·cases h
 ·cases h
theorem bstr_run {t : TypeId} {x y : Operand} {op : BinOp} (s u : ByteArray) (w : World) (r : Value) (h : (Op.stringOp op s u).run P w = .ok r w) (hne : op ≠ .shl ∧ op ≠ .shr) : (do eqGuard op t x y (.string s) (.string u); binOp op t (.string s) (.string u) : Sem Value).run P w = .ok r w := by
 have e1 : (eqGuard op t x y (.string s) (.string u)).run P w = .ok () w := by cases op <;> simp [eqGuard]
 rw [Sem.run_bind, e1]
 simp only [Result.andThen_ok]
 cases op <;> first | exact h | exact absurd rfl hne.1 | exact absurd rfl hne.2
end
end Go.Sep
