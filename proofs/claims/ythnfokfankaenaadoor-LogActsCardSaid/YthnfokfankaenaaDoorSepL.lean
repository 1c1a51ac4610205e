/-
 Division and shifts by what is not known ahead; slices with a bound on what is behind.
-/
import Derived.Test.YthnfokfankaenaaDoorSepJ
namespace Go.Sep
section
variable {P : Program} {ρ : Option Nat} {ops : Array Oper} {Q : Exit → Act → World → Prop} {a : Act} {n : Nat} {ds : List Deferred} {E : List (Nat × Value)}
variable {g w w0 : World} {len : Nat} {D D0 : Snap} {L L0 : List Blk} {i : Nat} {o : Oper} {d : Nat} {C : Act → World → Prop} {C1 : Act → Prop} {R : World → World → Prop}
theorem quo_run {t : TypeId} {x y : Operand} {k : IntKind} {p q : Int} (hq : decide (q = 0) = false) (w : World) : (do eqGuard .quo t x y (.int k p) (.int k q); binOp .quo t (.int k p) (.int k q) : Sem Value).run P w = .ok (.int k (k.wrap (Int.tdiv p q))) w := by
 have hq' : q ≠ 0 := of_decide_eq_false hq
 refine bin_run (guard_run trivial) (fun w => ?_) w
 simp [binOp, Op.intDiv, hq']
theorem shl_run {t : TypeId} {x y : Operand} {k k' : IntKind} {p q : Int} (hq : decide (q < 0) = false) (w : World) : (do eqGuard .shl t x y (.int k p) (.int k' q); binOp .shl t (.int k p) (.int k' q) : Sem Value).run P w = .ok (.int k (k.wrap (p * 2 ^ (min q.toNat k.bits)))) w := by
 have hq' : ¬ q < 0 := of_decide_eq_false hq
 refine bin_run (guard_run trivial) (fun w => ?_) w
 simp [binOp, Op.shift, hq']
theorem shr_run {t : TypeId} {x y : Operand} {k k' : IntKind} {p q : Int} (hq : decide (q < 0) = false) (w : World) : (do eqGuard .shr t x y (.int k p) (.int k' q); binOp .shr t (.int k p) (.int k' q) : Sem Value).run P w = .ok (.int k (Int.fdiv p (2 ^ (min q.toNat k.bits)))) w := by
 have hq' : ¬ q < 0 := of_decide_eq_false hq
 refine bin_run (guard_run trivial) (fun w => ?_) w
 simp [binOp, Op.shift, hq']
theorem chk_not {α : Type} {b : Bool} {x : Option α} {r : α} (h : chk (!b) x = some r) : b = false ∧ x = some r := by
 cases b with
 | true => cases h
 | false => exact ⟨rfl, h⟩
theorem sliceBound3_run (hE : Env a n ds E) {cap : Nat} {lo : Option Operand} {hi mx : Operand} {zl zh : Int} {k k' : IntKind} (hl : bndOk E lo 0 zl) (hh : evalO E hi = some (.int k zh)) (hm : evalO E mx = some (.int k' zh)) (h0 : 0 ≤ zl) (h1 : zl ≤ zh) (h2 : zh ≤ (cap : Int)) :
  (Instr.sliceBounds true len cap (lo.map a.eval) ((some hi).map a.eval) ((some mx).map a.eval)).run P w = .ok (zl.toNat, zh.toNat, zh.toNat) w := by
 have sb : ∀ {x : Operand} {k : IntKind} {z : Int} {y : Nat} (code : BoundsCode), evalO E x = some (.int k z) → 0 ≤ z → z ≤ (y : Int) → (Instr.sliceBound (a.eval x) y code).run P w = .ok z.toNat w := by
  intro x k z y code hx hz hy
  simp [Instr.sliceBound, hE.eval hx, asIntOf, hz, hy]
 have h3 : 0 ≤ zh := by omega
 have h4 : zl ≤ ((zh.toNat : Nat) : Int) := by omega
 have h5 : zh ≤ ((zh.toNat : Nat) : Int) := by omega
 cases lo with
 | none => simp only [bndOk] at hl; subst hl; simp [Instr.sliceBounds, sb _ hh h3 h5, sb _ hm h3 h2]
 | some y =>
  obtain ⟨k2, hk2⟩ := hl
  simp [Instr.sliceBounds, sb _ hh h3 h5, sb _ hm h3 h2, sb _ hk2 h0 h4]
/-- a slice that is full -/
theorem tk_sliceFull {α : Type} {K : Kd α} {t e by_ zl0 : Nat} {x : Operand} {lo : Option Operand} {hi mx : Operand} {zl zh : Int} {kk kk' : IntKind} {A : Option Addr} {cap : Nat} {l m : List α} (ho : ops[i]? = some o) (hop : o.op = .slice t x lo (some hi) (some mx)) (hg : guardOf ops E o = some true) (hd : o.dst = some d) (hE : Env a n ds E) (hn : Nat.blt d n = true)
  (hx : evalO E x = some (.slice A l.length cap)) (hT : slT P t = some (e, K.n, by_, zl0)) (hlo : bndOk E lo 0 zl) (hhi : evalO E hi = some (.int kk zh)) (hmx : evalO E mx = some (.int kk' zh)) (hl : Sl K D A cap l) (hm : subI l zl zh = some m)
  (k : ∀ a A', Env a n ds ((d, .slice A' m.length m.length) :: E) → Sl K D A' m.length m → C1 a) : Tk P ops R i n ds E a w C1 := by
 obtain ⟨h1, ii, z, hq, _, hqs, _⟩ := slT_spec hT
 obtain ⟨h0, h01, h2, rfl⟩ := subI_some hm
 have hcap := hl.1
 have hlen : ((l.take zh.toNat).drop zl.toNat).length = zh.toNat - zl.toNat := by simp; omega
 have hpre : Sl K D A zh.toNat (l.take zh.toNat) := by
  obtain ⟨g1, g2, cs, hr, hc⟩ := hl
  have hspl : l = l.take zh.toNat ++ l.drop zh.toNat := (List.take_append_drop _ _).symm
  rw [hspl] at hr
  obtain ⟨c1, c2, rfl, hr1, hr2⟩ := hr.split
  refine ⟨by simp; omega, by omega, c1, hr1, ?_⟩
  rcases hc with hc | ⟨b, off, c, T, fr, g3, g4, g5⟩
  ·exact .inl (List.append_eq_nil_iff.1 hc).1
  ·exact .inr ⟨b, off, c, T, fr, g3, g4, fun j u hu => g5 j u (by rw [List.getElem?_append_left (List.getElem?_eq_some_iff.1 hu).1]; exact hu)⟩
 have hsub := hpre.sub (x := zl.toNat) (y := zh.toNat) (by omega) (by simp; omega) ii.size hqs
 rw [List.take_take, Nat.min_self] at hsub
 have hsb := fun w => sliceBound3_run (P := P) (w := w) (len := l.length) (cap := cap) hE hlo hhi hmx h0 h01 (by omega)
 refine tk_of (v := .slice (if zh.toNat = zl.toNat then A else A.map (·.add (zl.toNat * ii.size))) ((l.take zh.toNat).drop zl.toNat).length ((l.take zh.toNat).drop zl.toNat).length) hE ho hg hd hn (by simp [hop, noDefer]) (fun w' _ => ?_) ?_
 ·rw [hlen]
  have hsb' := hsb w'
  simp only [Option.map_some] at hsb'
  simp [execOp, hop, Instr.sliceAt, hE.eval hx, run_underlying' h1, Instr.slice, hsb', sizeOf, typeInfo, hq]
 ·intro a' h'
  refine k a' _ h' ?_
  rw [hlen] at h' ⊢
  exact hsub
end
end Go.Sep
