/-
 Arrays of numbers in owned blocks: elements by an index that is not known ahead; a part of an array copied within it.
-/
import Derived.Test.YtomndohdnfebgaaGreatDoorSepR
import Derived.Laws.MakeOwn
namespace Go.Sep
/-- an index is one of an array's -/
def inA (N : Nat) (m : Int) : Bool := decide (0 ≤ m) && decide (m < (N : Int))
def vset {n : Nat} (v : Vector Int n) (i : Nat) (x : Int) : Vector Int n := v.setIfInBounds i x
theorem vget_vset {n : Nat} (v : Vector Int n) {i : Nat} (x : Int) {j : Nat} (hj : j < n) : vget (vset v i x) j = if i = j then x else vget v j := by
 simp only [vget, vset]
 rw [List.getD_eq_getElem?_getD, List.getD_eq_getElem?_getD]
 simp only [Vector.toList, Vector.toArray_setIfInBounds, Array.toList_setIfInBounds]
 rw [List.getElem?_set]
 split
 ·rename_i h
  subst h
  simp [hj]
 ·rfl
theorem acells_vset {k : IntKind} {n : Nat} (v : Vector Int n) {i : Nat} (x : Int) (hi : i < n) : acells k n (vset v i x) = (acells k n v).set i (.int k x) := by
 apply List.ext_getElem?
 intro j
 by_cases hj : j < n
 ·rw [List.getElem?_set]
  simp only [acells, List.getElem?_map, List.length_map, List.length_range]
  rw [List.getElem?_range hj]
  simp only [Option.map_some]
  rw [vget_vset v x hj]
  by_cases h : i = j
  ·subst h; simp [hi]
  ·simp [h]
 ·rw [List.getElem?_eq_none (by simp [acells]; omega), List.getElem?_eq_none (by simp [acells]; omega)]
theorem setCells_set {c : List Value} {i : Nat} {u : Value} (hi : i < c.length) : setCells c i [u] = c.set i u := by
 simp only [setCells]
 rw [List.set_eq_take_append_cons_drop]
 simp [hi]
def intT (P : Program) (t : TypeId) : Option IntKind := match P.underlying t, P.info? t with | some (.int k), some i => bif Nat.beq i.size 1 then some k else none | _, _ => none
theorem intT_spec {P : Program} {t : TypeId} {k : IntKind} (h : intT P t = some k) : ∃ i, P.underlying t = some (.int k) ∧ P.info? t = some i ∧ i.size = 1 := by
 unfold intT at h
 split at h
 ·rename_i i h1 h2
  cases hb : Nat.beq i.size 1 with
  | false => rw [hb] at h; cases h
  | true =>
   rw [hb] at h
   simp only [cond_true, Option.some.injEq] at h
   subst h
   exact ⟨i, h1, h2, Nat.eq_of_beq_eq_true hb⟩
 ·cases h
theorem inA_spec {N : Nat} {m : Int} (h : inA N m = true) : 0 ≤ m ∧ m < N ∧ m.toNat < N := by
 unfold inA at h
 simp only [Bool.and_eq_true, decide_eq_true_eq] at h
 omega
section
variable {P : Program} {ρ : Option Nat} {ops : Array Oper} {Q : Exit → Act → World → Prop} {a : Act} {n : Nat} {ds : List Deferred} {E : List (Nat × Value)}
variable {g w w' w0 : World} {D D0 : Snap} {L L0 : List Blk} {i : Nat} {o : Oper} {d : Nat} {C : Act → World → Prop} {C1 : Act → Prop} {R : World → World → Prop}
theorem tk_indexPA {t N b off : Nat} {x ix : Operand} {kk k : IntKind} {m : Int} (ho : ops[i]? = some o) (hop : o.op = .indexAddr t x ix) (hg : guardOf ops E o = some true) (hd : o.dst = some d) (hE : Env a n ds E) (hn : Nat.blt d n = true)
  (hx : evalO E x = some (.pointer (some ⟨b, off, none⟩))) (hix : evalO E ix = some (.int kk m)) (hT : arrIntT P t = some (N, k)) (hm : inA N m = true)
  (c : ∀ a, Env a n ds ((d, .pointer (some ⟨b, off + m.toNat, none⟩)) :: E) → C1 a) : Tk P ops R i n ds E a w C1 := by
 obtain ⟨e, ii, h1, h2, h3, h4⟩ := arrIntT_spec hT
 obtain ⟨m0, m1, m2⟩ := inA_spec hm
 refine tk_of (v := .pointer (some ⟨b, off + m.toNat, none⟩)) hE ho hg hd hn (by simp [hop, noDefer]) (fun w' _ => ?_) c
 have ea := addr_add b off m.toNat
 simp [execOp, hop, hE.eval hx, hE.eval hix, Instr.indexAt, asIntOf, run_underlying' h1, m0, m1, Go.sizeOf, typeInfo, h3, h4, Instr.sureAddr, ea]
theorem tk_loadPA (j : Nat) {t T N b : Nat} {x : Operand} {k : IntKind} {v : Vector Int N} {m : Int} (ho : ops[i]? = some o) (hop : o.op = .load t x) (hg : guardOf ops E o = some true) (hd : o.dst = some d) (hE : Env a n ds E) (hn : Nat.blt d n = true)
  (hS : Stp g w0 D0 L0 w D L) (hx : evalO E x = some (.pointer (some ⟨b, 0 + m.toNat, none⟩))) (hj : L[j]? = some (bx b T (acells k N v))) (hT : intT P t = some k) (hm : inA N m = true) (hM : ∀ w', R w w' → w'.heap[b]? = w.heap[b]?)
  (c : ∀ a, Env a n ds ((d, .int k (vget v m.toNat)) :: E) → C1 a) : Tk P ops R i n ds E a w C1 := by
 obtain ⟨ii, h1, h2, h3⟩ := intT_spec hT
 obtain ⟨m0, m1, m2⟩ := inA_spec hm
 refine tk_load j (.int k (vget v m.toNat)) ho hop hg hd hE hn hS hx hj ?_ hM c
 simp [ldv, h1, h2, acells, m2]
theorem op_storePA {t T N b : Nat} {y x : Operand} {k : IntKind} {v : Vector Int N} {m z : Int} (ho : ops[i]? = some o) (hop : o.op = .store t y x) (hg : guardOf ops E o = some true) (hd : o.dst = none) (hE : Env a n ds E)
  (hS : Stp g w0 D0 L0 w D (bx b T (acells k N v) :: L)) (hy : evalO E y = some (.pointer (some ⟨b, 0 + m.toNat, none⟩))) (hx : evalO E x = some (.int k z)) (hT : intT P t = some k) (hm : inA N m = true)
  (c : ∀ a w', Keeps [b] w w' → Env a n ds E → Stp g w0 D0 L0 w' D (bx b T (acells k N (vset v m.toNat z)) :: L) → C a w') : Op1 P ρ ops Q i C a w := by
 obtain ⟨ii, h1, h2, h3⟩ := intT_spec hT
 obtain ⟨m0, m1, m2⟩ := inA_spec hm
 have hl : (acells k N v).length = N := by simp [acells]
 refine op_store (v := .int k z) (acells k N (vset v m.toNat z)) ho hop hg hd hE hS hy hx (by simp [Program.cellsOf, h2, h3, vcells]) (by simp [h2]) ?_ (by simp [vcells, Value.oneCell']) ?_ c
 ·simp only [vcells, List.length_singleton, hl]
  exact Nat.ble_eq_true_of_le (by omega)
 ·show setCells (acells k N v) (0 + m.toNat) [.int k z] = _
  rw [Nat.zero_add, setCells_set (by rw [hl]; exact m2), acells_vset v z m2]
/-- a part of an array, nothing of which is handed out yet -/
theorem tk_slicePA {t N b : Nat} {x : Operand} {k : IntKind} {lo hi : Option Operand} {zl zh : Int} (ho : ops[i]? = some o) (hop : o.op = .slice t x lo hi none) (hg : guardOf ops E o = some true) (hd : o.dst = some d) (hE : Env a n ds E) (hn : Nat.blt d n = true)
  (hx : evalO E x = some (.pointer (some ⟨b, 0, none⟩))) (hT : arrIntT P t = some (N, k)) (hlo : bndOk E lo 0 zl) (hhi : bndOk E hi N zh) (hb : (decide (0 ≤ zl) && (decide (zl ≤ zh) && (decide (zh ≤ (N : Int)) && decide (zl < (N : Int))))) = true)
  (c : ∀ a, Env a n ds ((d, .slice (some ⟨b, zl.toNat, none⟩) (zh.toNat - zl.toNat) (N - zl.toNat)) :: E) → C1 a) : Tk P ops R i n ds E a w C1 := by
 obtain ⟨e, q, h1, h2, h3, h4⟩ := arrIntT_spec hT
 simp only [Bool.and_eq_true, decide_eq_true_eq] at hb
 obtain ⟨b1, b2, b3, b4⟩ := hb
 have hsb := fun w => sliceBounds_run (P := P) (w := w) (isS := false) (len := N) (cap := N) hE hlo hhi b1 b2 (by omega)
 refine tk_of (v := .slice (some ⟨b, zl.toNat, none⟩) (zh.toNat - zl.toNat) (N - zl.toNat)) hE ho hg hd hn (by simp [hop, noDefer]) (fun w' _ => ?_) c
 have hc : ¬ N = zl.toNat := by omega
 have ea : (⟨b, 0, none⟩ : Addr).add zl.toNat = ⟨b, zl.toNat, none⟩ := by rw [addr_add, Nat.zero_add]
 simp only [execOp, hop, Instr.sliceAt, hE.eval hx, Option.map_none, Sem.run_bind, run_underlying' h1, Result.andThen_ok, Instr.sureAddr, Sem.run_pure, hsb, sizeOf, typeInfo, run_program, h3]
 simp [hc, h4, ea]
/-- a part of an array over another one -/
def vcopy {n : Nat} (v : Vector Int n) (p q c : Nat) : Vector Int n := Vector.ofFn fun i => if p ≤ i.val ∧ i.val < p + c then vget v (q + (i.val - p)) else vget v i.val
theorem acells_vcopy {k : IntKind} {n : Nat} (v : Vector Int n) {p q c : Nat} (hp : p + c ≤ n) (hq : q + c ≤ n) : acells k n (vcopy v p q c) = setCells (acells k n v) p (((acells k n v).drop q).take c) := by
 have hl : (acells k n v).length = n := by simp [acells]
 apply List.ext_getElem?
 intro j
 by_cases hj : j < n
 ·have e1 : (acells k n (vcopy v p q c))[j]? = some (.int k (if p ≤ j ∧ j < p + c then vget v (q + (j - p)) else vget v j)) := by
   simp only [acells, List.getElem?_map]
   rw [List.getElem?_range hj]
   simp [vget, vcopy, hj]
  rw [e1]
  have hlen : (((acells k n v).drop q).take c).length = c := by simp [hl]; omega
  simp only [setCells, hlen]
  by_cases h1 : j < p
  ·rw [if_neg (by omega), List.append_assoc, List.getElem?_append_left (by simp [hl]; omega)]
   simp [acells, h1, hj]
  ·by_cases h2 : j < p + c
   ·rw [if_pos (by omega), List.append_assoc, List.getElem?_append_right (by simp [hl]; omega)]
    have e3 : ((acells k n v).take p).length = p := by simp [hl]; omega
    rw [e3, List.getElem?_append_left (by rw [hlen]; omega), List.getElem?_take, if_pos (by omega), List.getElem?_drop]
    have : q + (j - p) < n := by omega
    simp [acells, this]
   ·rw [if_neg (by omega), List.getElem?_append_right (by simp [hl, hlen]; omega)]
    have e3 : ((acells k n v).take p ++ ((acells k n v).drop q).take c).length = p + c := by rw [List.length_append, hlen]; simp [hl]; omega
    rw [e3, List.getElem?_drop]
    have : p + c + (j - (p + c)) = j := by omega
    rw [this]
    simp [acells, hj]
 ·rw [List.getElem?_eq_none (by simp [acells]; omega), List.getElem?_eq_none (by simp [setCells, hl]; omega)]
theorem op_copyPA {t T e N b p q l1 l2 c1 c2 cc : Nat} {x y : Operand} {ts : Array TypeId} {k : IntKind} {v : Vector Int N} (ho : ops[i]? = some o) (hop : o.op = .call { callee := .builtin .copy, args := #[x, y], argTypes := ts }) (hts : ts[0]? = some t) (hg : guardOf ops E o = some true) (hd : o.dst = some d) (hE : Env a n ds E) (hn : Nat.blt d n = true)
  (hS : Stp g w0 D0 L0 w D (bx b T (acells k N v) :: L)) (hx : evalO E x = some (.slice (some ⟨b, p, none⟩) l1 c1)) (hy : evalO E y = some (.slice (some ⟨b, q, none⟩) l2 c2)) (hT : P.underlying t = some (.slice e)) (hI : intT P e = some k)
  (hc : Nat.min l2 l1 = cc) (hb : (Nat.ble (p + cc) N && Nat.ble (q + cc) N) = true)
  (c : ∀ a w', Keeps [b] w w' → Env a n ds ((d, .int .i64 (cc : Int)) :: E) → Stp g w0 D0 L0 w' D (bx b T (acells k N (vcopy v p q cc)) :: L) → C a w') : Op1 P ρ ops Q i C a w := by
 obtain ⟨ii, h1, h2, h3⟩ := intT_spec hI
 simp only [Bool.and_eq_true] at hb
 have hb1 := Nat.le_of_ble_eq_true hb.1
 have hb2 := Nat.le_of_ble_eq_true hb.2
 have hl : (acells k N v).length = N := by simp [acells]
 have hload := run_loadCells_list (P := P) (w := w) ⟨b, q, none⟩ (((acells k N v).drop q).take cc) (fun j u hu => by
  rw [addr_add, cell_of_row w b _ _ _ _ hS.heap0]
  rw [List.getElem?_take] at hu
  split at hu
  ·rw [List.getElem?_drop] at hu
   simpa using hu
  ·cases hu)
 have hlen : (((acells k N v).drop q).take cc).length = cc := by simp [hl]; omega
 rw [hlen] at hload
 have hst := run_storeCells_at P b p T (((acells k N v).drop q).take cc) 0 (acells k N v).toArray w hS.heap0 (by simp [hl]; omega) (fun u hu => by
  have := List.mem_of_mem_drop (List.mem_of_mem_take hu)
  simp only [acells, List.mem_map] at this
  obtain ⟨_, _, rfl⟩ := this
  rfl)
 simp only [Nat.add_zero] at hst
 refine op_val (v := .int .i64 (cc : Int)) (w' := w.setRow b (setCells (acells k N v) p (((acells k N v).drop q).take cc)).toArray) hE ho hg (by simp [hd, dstOk, hn]) (by simp [hop, noDefer]) ?_ ?_
 ·have hcc : Nat.min l2 l1 = cc := hc
  simp [execOp, hop, hE.eval hx, hE.eval hy, resolve, invoke, builtin, Builtin.copy_, hts, run_underlying' hT, Builtin.lenOf, hcc, Builtin.firstCells, sizeOf, typeInfo, h2, h3, hload, hst, setCells, goInt]
 ·rw [hd]
  intro a' h'
  refine c a' _ ⟨by simp, fun k _ hk => setRow_other w b k _ (by simpa using hk)⟩ h' ?_
  rw [acells_vcopy v hb1 hb2]
  exact hS.put0 (by simp) rfl rfl rfl (setRow_heap w b (acells k N v).toArray _ T _ hS.heap0) (fun k hk => setRow_other w b k _ hk)
end
theorem Cell.elemA {D : Snap} {k : IntKind} {N b off : Nat} {v : Vector Int N} {m : Int} (h : Cell (kdArr k N) D b off v) (hm : inA N m = true) : Cell (kdInt k) D b (off + m.toNat) (vget v m.toNat) :=
 h.elem ⟨(inA_spec hm).1, (inA_spec hm).2.2⟩
section
variable {P : Program} {ρ : Option Nat} {ops : Array Oper} {Q : Exit → Act → World → Prop} {a : Act} {n : Nat} {ds : List Deferred} {E : List (Nat × Value)}
variable {g w w0 : World} {D D0 : Snap} {L L0 : List Blk} {i : Nat} {o : Oper} {d : Nat} {C : Act → World → Prop} {α : Type} {K : Kd α}
/-- 'make([]T, m)' -/
theorem op_makeSlice {t e bytes : Nat} {x y : Operand} {m : Int} {z : α} {cz : List Value} {lm : List α} (ho : ops[i]? = some o) (hop : o.op = .makeSlice t x y) (hg : guardOf ops E o = some true) (hd : o.dst = some d) (hE : Env a n ds E) (hn : Nat.blt d n = true)
  (hS : Stp g w0 D0 L0 w D L) (hx : evalO E x = some (.int .i64 m)) (hy : evalO E y = some (.int .i64 m))
  (hT : slT P t = some (e, K.n, bytes, K.n)) (hzv : ((P.info? e).bind (·.zero)).map vcells = some cz) (hz : K.r D z cz) (hpos : Nat.blt 0 K.n = true) (hb1 : Nat.blt 0 bytes = true) (hfit : zerosI bytes z m = some lm)
  (k : ∀ a A' cap' q' w', Keeps [] w w' → Env a n ds ((d, .slice A' lm.length cap') :: E) → OwnD K e D A' cap' lm q' → Stp g w0 D0 L0 w' D (q' :: L) → C a w') : Op1 P ρ ops Q i C a w := by
 obtain ⟨h1, ii, z0, h2, h3, h4, h5, h6⟩ := slT_spec hT
 have hpos' : 0 < K.n := by simpa [Nat.blt_eq] using hpos
 have hb1' : 0 < bytes := by simpa [Nat.blt_eq] using hb1
 have hz0 : vcells z0 = cz := by simpa [h2, h3] using hzv
 have hf : 0 ≤ m ∧ m * bytes ≤ 140737488355328 ∧ lm = List.replicate m.toNat z := by
  unfold zerosI at hfit
  cases hd : (decide (0 ≤ m) && decide (m * bytes ≤ 140737488355328)) with
  | true =>
   rw [hd] at hfit
   simp only [Bool.and_eq_true, decide_eq_true_eq] at hd
   simp only [cond_true, Option.some.injEq] at hfit
   exact ⟨hd.1, hd.2, hfit.symm⟩
  | false => rw [hd] at hfit; cases hfit
 obtain ⟨hm0, hmb, rfl⟩ := hf
 obtain ⟨N, rfl⟩ := Int.eq_ofNat_of_zero_le hm0
 have hNb : N * bytes ≤ 140737488355328 := by
  have h : ((N * bytes : Nat) : Int) ≤ 140737488355328 := by rw [Int.natCast_mul]; exact hmb
  omega
 have hN : N ≤ 140737488355328 := Nat.le_trans (Nat.le_mul_of_pos_right N hb1') hNb
 simp only [Int.toNat_natCast] at k ⊢
 have hzs : z0.cells.size = K.n := by rw [vcells_eq]; simpa using h6
 have hzeros : (madeCells z0.cells (N * ii.size)).toList = zerosL cz N := by
  have e1 : madeCells z0.cells (N * ii.size) = Builtin.zeroCells z0.cells N := by
   simp only [madeCells, Builtin.zeroCells, h4, hzs]
  rw [e1]
  have : Builtin.zeroCells z0.cells N = (zerosL (vcells z0) N).toArray := by
   rw [vcells_eq]
   simp only [Builtin.zeroCells]
   rw [zeros_eq _ _ (by rw [List.size_toArray, h6]; exact hpos')]
  rw [this, hz0]
 have hrl : ∀ N, RL K D (List.replicate N z) (zerosL cz N) := by
  intro N
  induction N with
  | zero => rfl
  | succ N ih => exact ⟨cz, zerosL cz N, rfl, hz, ih⟩
 have hrun := run_make (P := P) w t e ii z0 h1 h2 h3 .i64 .i64 (N : Int) (N : Int) (by omega) (Int.le_refl _) (by
  rw [h5]
  have h : ((bytes * N : Nat) : Int) ≤ 281474976710656 := by rw [Nat.mul_comm]; omega
  rwa [Int.natCast_mul] at h) (by omega)
 simp only [Int.toNat_natCast] at hrun
 refine op_val (v := .slice (some ⟨w.heap.size, 0, none⟩) N N) (w' := w.alloc (.cells (madeCells z0.cells (N * ii.size)) e)) hE ho hg (by simp [hd, dstOk, hn]) (by simp [hop, noDefer]) ?_ ?_
 ·simp [execOp, hop, hE.eval hx, hE.eval hy, hrun]
 ·rw [hd]
  intro a' h'
  have hsz2 : (madeCells z0.cells (N * ii.size)).size = N * K.n := by rw [size_madeCells, h4]
  refine k a' _ N (some (w.heap.size, (.cells (madeCells z0.cells (N * ii.size)) e (0, 0), 0))) _ (keeps_alloc _ _) (by simpa [upd] using h') ⟨zerosL cz N, ⟨rfl, by simp, by simp only [maxLen]; omega, ?_, _, 0, rfl, Nat.zero_le _, fun _ => rfl, ?_, ?_⟩, hrl N⟩ (hS.alloc _)
  ·rw [zerosL_length, ← hz0, h6, List.length_replicate]
  ·rw [hsz2]
  ·rw [List.length_replicate, hzeros]
   have : N * K.n = (zerosL cz N).length := by rw [zerosL_length, ← hz0, h6]
   rw [this, List.take_length]
end
section
variable {P : Program} {ρ : Option Nat} {ops : Array Oper} {a : Act} {n : Nat} {ds : List Deferred} {E : List (Nat × Value)} {w : World} {D : Snap} {i : Nat} {o : Oper} {d : Nat} {C1 : Act → Prop} {R : World → World → Prop}
/-- an array within a block that no one writes any more, as a slice -/
theorem tk_sliceArrAt {kk : IntKind} {t e N b off : Nat} {x : Operand} {lo hi : Option Operand} {zl zh : Int} {T : TypeId} {fr : Nat × Nat} {cs : List Value} {v : Vector Int N} {m : List Int} (ho : ops[i]? = some o) (hop : o.op = .slice t x lo hi none) (hg : guardOf ops E o = some true) (hd : o.dst = some d) (hE : Env a n ds E) (hn : Nat.blt d n = true)
  (hx : evalO E x = some (.pointer (some ⟨b, off, none⟩))) (hT : arT P t = some (N, e, 1)) (hlo : bndOk E lo 0 zl) (hhi : bndOk E hi N zh) (hD : D b = some (.cells cs.toArray T fr)) (hcs : (cs.drop off).take N = acells kk N v) (hN : Nat.ble N 1000000 = true) (hm : subI (vlist v) zl zh = some m)
  (k : ∀ a A' cap', Env a n ds ((d, .slice A' m.length cap') :: E) → Sl (kdInt kk) D A' cap' m → C1 a) : Tk P ops R i n ds E a w C1 := by
 obtain ⟨ht, he⟩ := arT_spec hT
 have hN' := Nat.le_of_ble_eq_true hN
 obtain ⟨h0, h1, h2, rfl⟩ := subI_some hm
 rw [vlist_length] at h2
 obtain ⟨q, hq, hqs⟩ := Option.map_eq_some_iff.1 he
 have hsb := fun w => sliceBounds_run (P := P) (w := w) (isS := false) (len := N) (cap := N) hE hlo hhi h0 h1 (by omega)
 have hlen : (((vlist v).take zh.toNat).drop zl.toNat).length = zh.toNat - zl.toNat := by simp [vlist_length]; omega
 have hsl : Sl (kdInt kk) D (some ⟨b, off, none⟩) N (vlist v) := ⟨by rw [vlist_length]; exact Nat.le_refl _, by simp only [maxLen]; omega, acells kk N v, RL_arr v, .inr ⟨b, off, _, T, fr, rfl, hD, fun j u hu => by
  rw [← hcs, List.getElem?_take] at hu
  split at hu
  ·rw [List.getElem?_drop] at hu
   simpa using hu
  ·cases hu⟩⟩
 have hsub := hsl.sub (x := zl.toNat) (y := zh.toNat) (by omega) (by rw [vlist_length]; omega) q.size hqs
 refine tk_of (v := .slice (if N = zl.toNat then some ⟨b, off, none⟩ else (some (⟨b, off, none⟩ : Addr)).map (·.add (zl.toNat * q.size))) (((vlist v).take zh.toNat).drop zl.toNat).length (N - zl.toNat)) hE ho hg hd hn (by simp [hop, noDefer]) (fun w' _ => ?_) ?_
 ·rw [hlen]
  simp only [execOp, hop, Instr.sliceAt, hE.eval hx, Option.map_none, Sem.run_bind, run_underlying' ht, Result.andThen_ok, Instr.sureAddr, Sem.run_pure, hsb, sizeOf, typeInfo, run_program, hq]
  by_cases hc : N = zl.toNat
  ·simp [hc]
  ·simp [hc]
 ·intro a' h'
  exact k a' _ _ h' hsub
end
/-! ### a block that is lent for a while -/
section
variable {g w0 w w' : World} {D0 D D' : Snap} {L0 L : List Blk}
end
end Go.Sep
