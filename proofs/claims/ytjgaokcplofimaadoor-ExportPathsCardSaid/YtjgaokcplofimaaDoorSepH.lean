/-
 Nil slices, prefixes of owned slices, zeros appended; equal arrays.
-/
import Derived.Test.YtjgaokcplofimaaDoorSepG
import Derived.IntWalk
namespace Go.Sep
theorem Sl.of_none {α : Type} {K : Kd α} {D : Snap} {A : Option Addr} {cap : Nat} {l : List α} (h : Sl K D A cap l) (hA : Option.isNone A = true) (hpos : Nat.blt 0 K.n = true) : l = [] := by
 obtain ⟨_, _, cs, hr, hc⟩ := h
 have hpos' : 0 < K.n := by simpa [Nat.blt_eq] using hpos
 cases A with
 | some p => cases hA
 | none =>
  rcases hc with rfl | ⟨b, off, c, T, fr, h, _⟩
  ·have h1 := hr.len
   simp only [List.length_nil] at h1
   rcases Nat.mul_eq_zero.1 h1.symm with h2 | h2
   ·exact List.eq_nil_of_length_eq_zero h2
   ·omega
  ·cases h
def zerosI {α : Type} (bytes : Nat) (z : α) (n : Int) : Option (List α) := bif (decide (0 ≤ n) && decide (n * bytes ≤ 140737488355328)) then some (List.replicate n.toNat z) else none
section
variable {P : Program} {ρ : Option Nat} {ops : Array Oper} {Q : Exit → Act → World → Prop} {a : Act} {n : Nat} {ds : List Deferred} {E : List (Nat × Value)}
variable {g w w0 : World} {D D0 : Snap} {L L0 : List Blk} {i : Nat} {o : Oper} {d : Nat} {C : Act → World → Prop} {C1 : Act → Prop} {R : World → World → Prop}
variable {α : Type} {K : Kd α}
/-- a slice of the nil slice -/
theorem tk_sliceNil {t e sz by_ zl : Nat} {x : Operand} {lo hi : Option Operand} (ho : ops[i]? = some o) (hop : o.op = .slice t x lo hi none) (hg : guardOf ops E o = some true) (hd : o.dst = some d) (hE : Env a n ds E) (hn : Nat.blt d n = true)
  (hx : evalO E x = some (.slice none 0 0)) (hT : slT P t = some (e, sz, by_, zl)) (hlo : bndOk E lo 0 0) (hhi : bndOk E hi 0 0)
  (k : ∀ a, Env a n ds ((d, .slice none 0 0) :: E) → C1 a) : Tk P ops R i n ds E a w C1 := by
 obtain ⟨h1, ii, z, h2, _, h4, _⟩ := slT_spec hT
 refine tk_of (v := .slice none 0 0) hE ho hg hd hn (by simp [hop, noDefer]) (fun w' _ => ?_) k
 have hsb := sliceBounds_run (P := P) (w := w') (isS := true) (len := 0) (cap := 0) hE hlo hhi (Int.le_refl _) (Int.le_refl _) (Int.le_refl _)
 simp only [Int.toNat_zero] at hsb
 simp [execOp, hop, Instr.sliceAt, hE.eval hx, run_underlying' h1, Instr.slice, hsb, sizeOf, typeInfo, h2]
/-- the capacity of the nil slice -/
theorem tk_capNil {t : Nat} {x : Operand} {m c : Nat} {A : Option Addr} (ho : ops[i]? = some o) (hop : o.op = .call { callee := .builtin .cap, args := #[x], argTypes := #[t] }) (hg : guardOf ops E o = some true) (hd : o.dst = some d) (hE : Env a n ds E) (hn : Nat.blt d n = true)
  (hx : evalO E x = some (.slice A m c)) (hT : sliceT P t = true)
  (k : ∀ a, Env a n ds ((d, .int .i64 (c : Int)) :: E) → C1 a) : Tk P ops R i n ds E a w C1 := by
 obtain ⟨e, he⟩ := sliceT_spec hT
 refine tk_of (v := .int .i64 (c : Int)) hE ho hg hd hn (by simp [hop, noDefer]) (fun w' _ => ?_) k
 simp [execOp, hop, resolve, hE.eval hx, invoke, builtin, Builtin.cap_, run_underlying' he, goInt]
/-- the first ones of an owned slice -/
theorem op_prefixO {T t by_ zl : Nat} {x : Operand} {hi : Option Operand} {zh : Int} {A : Option Addr} {cap : Nat} {l m : List α} {q : Blk} (ho : ops[i]? = some o) (hop : o.op = .slice t x none hi none) (hg : guardOf ops E o = some true) (hd : o.dst = some d) (hE : Env a n ds E) (hn : Nat.blt d n = true)
  (hx : evalO E x = some (.slice A l.length cap)) (hT : slT P t = some (T, K.n, by_, zl)) (hhi : bndOk E hi l.length zh) (hl : OwnD K T D A cap l q) (hm : subI l 0 zh = some m)
  (k : ∀ a, Env a n ds ((d, .slice A m.length cap) :: E) → OwnD K T D A cap m q → C1 a) : Tk P ops R i n ds E a w C1 := by
 obtain ⟨h1, ii, z, h2, _, h4, _⟩ := slT_spec hT
 obtain ⟨h0, h01, hle, rfl⟩ := subI_some hm
 have hcap : l.length ≤ cap := hl.lc.1
 obtain ⟨cs, hO, hr⟩ := hl
 have hlen : ((l.take zh.toNat).drop (0 : Int).toNat).length = zh.toNat := by simp; omega
 have hsb := fun w' => sliceBounds_run (P := P) (w := w') (isS := true) (len := l.length) (cap := cap) (lo := none) hE rfl hhi (Int.le_refl 0) h01 (by omega)
 have hA : (if cap = 0 then A else A.map (·.add (0 * ii.size))) = A := by
  by_cases hc : cap = 0
  ·simp [hc]
  ·cases A with
   | none => simp
   | some p => simp [hc, Addr.add]
 refine tk_of (v := .slice A ((l.take zh.toNat).drop (0 : Int).toNat).length cap) hE ho hg hd hn (by simp [hop, noDefer]) (fun w' _ => ?_) (fun a' h' => k a' h' ?_)
 ·rw [hlen]
  have hsb' := hsb w'
  simp only [Int.toNat_zero, Option.map_none] at hsb'
  simp only [execOp, hop, Instr.sliceAt, hE.eval hx, Option.map_none, Sem.run_bind, run_underlying' h1, Result.andThen_ok, Instr.slice, hsb', sizeOf, typeInfo, run_program, h2, Sem.run_pure, Nat.sub_zero, hA]
 ·simp only [Int.toNat_zero, List.drop_zero]
  have hspl : l = l.take zh.toNat ++ l.drop zh.toNat := (List.take_append_drop _ _).symm
  rw [hspl] at hr
  obtain ⟨c1, c2, rfl, hr1, hr2⟩ := hr.split
  have hl1 := hr1.len
  have hl2 : (l.take zh.toNat).length = zh.toNat := by simp; omega
  refine ⟨c1, ?_, hr1⟩
  cases q with
  | none =>
   obtain ⟨g1, g2, g3, g4, g5⟩ := hO
   obtain ⟨rfl, g6⟩ := g5 rfl
   have hc1 : c1 = [] := by
    have : (c1 ++ c2).length = 0 := by rw [g4, g6, Nat.zero_mul]
    exact (List.append_eq_nil_iff.1 (List.eq_nil_of_length_eq_zero this)).1
   exact ⟨by rw [hl2]; omega, by rw [hl2]; omega, .inl hc1, by rw [hl1], fun _ => ⟨rfl, by rw [hl2]; omega⟩⟩
  | some p =>
   obtain ⟨b, u⟩ := p
   obtain ⟨rfl, g1, g2, g3, Cl, k0, rfl, g6, g7, g4, g5⟩ := hO
   refine ⟨rfl, by omega, g2, by rw [hl1], Cl, k0, rfl, by rw [g7 rfl]; exact Nat.zero_le _, g7, g4, ?_⟩
   have : Cl.toList.take ((l.take zh.toNat).length * K.n) = (Cl.toList.take (l.length * K.n)).take ((l.take zh.toNat).length * K.n) := by
    rw [List.take_take]; congr 1
    exact (Nat.min_eq_left (Nat.mul_le_mul_right _ (by omega))).symm
   rw [this, g5, ← hl1, List.take_left]
/-- zeros appended to the nil slice -/
theorem op_appendZ {s x : Operand} {t u e bytes : Nat} {m : Int} {z : α} {cz : List Value} {lm : List α} (ho : ops[i]? = some o) (hop : o.op = .call { callee := .builtin .append, args := #[s, x], argTypes := #[t, u] }) (hg : guardOf ops E o = some true) (hd : o.dst = some d) (hE : Env a n ds E) (hn : Nat.blt d n = true)
  (hS : Stp g w0 D0 L0 w D L) (hs : evalO E s = some (.slice none 0 0)) (hx : evalO E x = some (.int .i64 m))
  (hT : slT P t = some (e, K.n, bytes, K.n)) (hu : intKindOf P u = some .i64) (hzv : ((P.info? e).bind (·.zero)).map vcells = some cz) (hz : K.r D z cz) (hpos : Nat.blt 0 K.n = true) (hb1 : Nat.blt 0 bytes = true) (hfit : zerosI bytes z m = some lm)
  (k : ∀ a A' cap' q' w', Keeps [] w w' → Env a n ds ((d, .slice A' lm.length cap') :: E) → OwnD K e D A' cap' lm q' → Stp g w0 D0 L0 w' D (q' :: L) → C a w') : Op1 P ρ ops Q i C a w := by
 obtain ⟨h1, ii, z0, h2, h3, h4, h5, h6⟩ := slT_spec hT
 have hpos' : 0 < K.n := by simpa [Nat.blt_eq] using hpos
 have hb1' : 0 < bytes := by simpa [Nat.blt_eq] using hb1
 have hz0 : vcells z0 = cz := by simpa [h2, h3] using hzv
 have hf : 0 ≤ m ∧ m * bytes ≤ 140737488355328 ∧ lm = List.replicate m.toNat z := by
  unfold zerosI at hfit
  cases hd : (decide (0 ≤ m) && decide (m * bytes ≤ 140737488355328)) with
  | true =>
   rw [hd] at hfit
   simp only [Bool.and_eq_true, decide_eq_true_eq] at hd
   simp only [cond_true, Option.some.injEq] at hfit
   exact ⟨hd.1, hd.2, hfit.symm⟩
  | false => rw [hd] at hfit; cases hfit
 obtain ⟨hm0, hmb, rfl⟩ := hf
 obtain ⟨N, rfl⟩ := Int.eq_ofNat_of_zero_le hm0
 have hNb : N * bytes ≤ 140737488355328 := by
  have h : ((N * bytes : Nat) : Int) ≤ 140737488355328 := by rw [Int.natCast_mul]; exact hmb
  omega
 have hN : N ≤ 140737488355328 := Nat.le_trans (Nat.le_mul_of_pos_right N hb1') hNb
 have hwrap : IntKind.i64.wrap (N : Int) = (N : Int) := by
  exact IntWalk.i64_in _ (by omega)
 have hintu := underlying_int hu
 simp only [Int.toNat_natCast] at k ⊢
 have hzeros : (Builtin.zeroCells z0.cells N).toList = (zerosL cz N) := by
  have : Builtin.zeroCells z0.cells N = (zerosL (vcells z0) N).toArray := by
   rw [vcells_eq]
   simp only [Builtin.zeroCells]
   rw [zeros_eq _ _ (by rw [List.size_toArray, h6]; exact hpos')]
  rw [this, hz0]
 have hrl : ∀ N, RL K D (List.replicate N z) (zerosL cz N) := by
  intro N
  induction N with
  | zero => rfl
  | succ N ih => exact ⟨cz, zerosL cz N, rfl, hz, ih⟩
 by_cases hN0 : N = 0
 ·subst hN0
  refine op_val (v := .slice none 0 0) (w' := w) hE ho hg (by simp [hd, dstOk, hn]) (by simp [hop, noDefer]) ?_ ?_
  ·simp [execOp, hop, resolve, hE.eval hs, hE.eval hx, invoke, builtin, Builtin.append_, run_underlying' h1, run_underlying' hintu, sizeOf, typeInfo, h2, asInt, asIntOf, show IntKind.i64.wrap 0 = 0 from by decide]
  ·rw [hd]
   intro a' h'
   exact k a' none 0 none w (Keeps.refl _ _) h' (OwnD.nil K e D) hS.nils
 ·have hnot : ¬ (N ≤ 0) := by omega
  have h63 : ¬ ((9223372036854775807 : Int) < (N : Int)) := by omega
  have h48 : ¬ (281474976710656 < Builtin.nextslicecap N 0 * bytes) := by rw [nextslicecap_zero (by omega)]; omega
  have h48a : ¬ ((281474976710656 : Int) < (N : Int) * (bytes : Int)) := by
   omega
  have hge := grownCap_ge w N 0 e
  have hcm : grownCap w N 0 e ≤ maxLen := grownCap_le_maxLen w N 0 e (by simp only [maxLen]; omega)
  refine op_val (v := .slice (some ⟨w.heap.size, 0, none⟩) N (grownCap w N 0 e)) (w' := w.drew.alloc (.cells (Builtin.zeroCells z0.cells N ++ Builtin.zeroCells z0.cells (grownCap w N 0 e - N)) e)) hE ho hg (by simp [hd, dstOk, hn]) (by simp [hop, noDefer]) ?_ ?_
  ·have hN00 : ¬ (N * ii.size = 0) := by rw [h4]; exact Nat.mul_ne_zero hN0 (by omega)
   simp [execOp, hop, resolve, hE.eval hs, hE.eval hx, invoke, builtin, Builtin.append_, run_underlying' h1, run_underlying' hintu, sizeOf, typeInfo, zeroValue, h2, h3, asInt, asIntOf, hwrap, h5, h48a, hN0, h63, h48, Question.forced, newRow, grownCap, Builtin.firstCells]
   rw [if_neg (by omega), if_neg hN00]
  ·rw [hd]
   intro a' h'
   have hsz2 : (Builtin.zeroCells z0.cells N).size = N * K.n := by rw [size_zeroCells, vcells_len, h6]
   refine k a' _ _ (some (w.heap.size, (.cells (Builtin.zeroCells z0.cells N ++ Builtin.zeroCells z0.cells (grownCap w N 0 e - N)) e (0, 0), 0))) _ ⟨by simp, fun b hb _ => heap_alloc_old w.drew _ b hb⟩ (by simpa [upd] using h') ⟨zerosL cz N, ⟨rfl, by simpa using hge, hcm, ?_, _, 0, rfl, Nat.zero_le _, fun _ => rfl, ?_, ?_⟩, hrl N⟩ (hS.drew.alloc _)
   ·rw [zerosL_length, ← hz0, h6, List.length_replicate]
   ·rw [Array.size_append, hsz2, size_zeroCells, vcells_len, h6, ← Nat.add_mul]
    congr 1
    omega
   ·rw [List.length_replicate, Array.toList_append, hzeros]
    have : N * K.n = (zerosL cz N).length := by rw [zerosL_length, ← hz0, h6]
    rw [this, List.take_left]
end
end Go.Sep
