/-
 Symbolic execution: slices and literals.
-/
import Derived.Test.YtomndohdnfebgaaGreatDoorSxG
namespace Go.Sep
section
variable {T : Tb} {C : Cx T} {ct : Ct} {ρ : Rho} {D : Snap} {Lv R : List Blk} {s : SS T} {a : Act} {w : World}
variable {rd : Option Nat} {ops : Array Oper} {Q : Exit → Act → World → Prop} {i : Nat} {o : Oper} {d : Tmp} {Cn : Act → World → Prop} {α : Type} {k : SS T → Option α} {r : α}
theorem slT'_spec {P : Program} {t e by_ : Nat} {y : Ty} (h : slT' T P t = some (e, y, by_)) : slT P t = some (e, (kdT T y).n, by_, (kdT T y).n) ∧ Nat.blt 0 (kdT T y).n = true ∧ Nat.blt 0 by_ = true := by
 unfold slT' at h
 split at h
 ·rename_i e' n by' zl hs
  split at h
  ·rename_i y' hy
   cases hb : (Nat.beq n (szT T y') && (Nat.beq n zl && (Nat.blt 0 n && Nat.blt 0 by'))) with
   | false => rw [hb] at h; cases h
   | true =>
    rw [hb] at h
    simp only [cond_true, Option.some.injEq, Prod.mk.injEq] at h
    obtain ⟨rfl, rfl, rfl⟩ := h
    simp only [Bool.and_eq_true] at hb
    have h1 := Nat.eq_of_beq_eq_true hb.1
    have h2 := Nat.eq_of_beq_eq_true hb.2.1
    rw [← szT_n, ← h1]
    refine ⟨?_, hb.2.2.1, hb.2.2.2⟩
    rw [hs, h2]
  ·cases h
 ·cases h
theorem tk_indexPV {P : Program} {R : World → World → Prop} {n : Nat} {ds : List Deferred} {E : List (Nat × Value)} {C1 : Act → Prop} {t N e es b off : Nat} {x ix : Operand} {kk : IntKind} {m : Int} (ho : ops[i]? = some o) (hop : o.op = .indexAddr t x ix) (hg : guardOf ops E o = some true) (hd : o.dst = some d) (hE : Env a n ds E) (hn : Nat.blt d n = true)
  (hx : evalO E x = some (.pointer (some ⟨b, off, none⟩))) (hix : evalO E ix = some (.int kk m)) (hT : arT2 P t = some (N, e, es)) (hm : inA N m = true)
  (c : ∀ a, Env a n ds ((d, .pointer (some ⟨b, off + m.toNat * es, none⟩)) :: E) → C1 a) : Tk P ops R i n ds E a w C1 := by
 obtain ⟨ii, h1, h3, h4⟩ := arT2_spec hT
 obtain ⟨m0, m1, m2⟩ := inA_spec hm
 refine tk_of (v := .pointer (some ⟨b, off + m.toNat * es, none⟩)) hE ho hg hd hn (by simp [hop, noDefer]) (fun w' _ => ?_) c
 have ea := addr_add b off (m.toNat * es)
 simp [execOp, hop, hE.eval hx, hE.eval hix, Instr.indexAt, asIntOf, run_underlying' h1, m0, m1, Go.sizeOf, typeInfo, h3, h4, Instr.sureAddr, ea]
theorem idx_ok (hC : CxOk C ct) (h : RSx ct ρ D Lv R s a w) (du : Du ct ops i o a (some d)) {t : TypeId} {x ix : Operand} (hop : o.op = .indexAddr t x ix) {u : SV T} {uu : Value} {kk : IntKind} {m : Int} (e1 : evalO (EvA a) x = some uu) (e2 : evalO (EvA a) ix = some (.int kk m)) (r1 : RV ρ D u uu)
  (hs : (idxS C.P s (some d) t u m).run k = some r) (hk : ∀ s' a', Ext s s' → k s' = some r → RS ct s' a' w → Cn a' w) : Op1 C.P rd ops Q i Cn a w := by
 unfold idxS at hs
 split at hs
 ·rename_i e y by_ hT
  obtain ⟨hT1, hT2, hT3⟩ := slT'_spec hT
  split at hs
  ·rename_i xs s1 hf
   obtain ⟨z, s', hz, hs', hkk⟩ := dem_run hs
   simp only [Option.some.injEq] at hs'
   subst hs'
   obtain ⟨D', Lv', A, cap, hd, h1, rfl, hSl, hx⟩ := frzSl_ok hC.tb hf h r1
   refine tk_ok h1 (g_index (K := kdT T y) du.ho hop du.hg du.hd h1.env du.lt e1 e2 hT1 hT2 hSl hz fun a' b off hE hc => hk _ a' (hx.trans (Ext.put _ _ _)) hkk ⟨ρ, D', Lv', R, h1.put (fun _ _ => RV_one rfl ⟨b, off, rfl, hc⟩) du.fr hE⟩)
  ·cases hs
 ·cases hs
theorem index_ok (hC : CxOk C ct) (h : RSx ct ρ D Lv R s a w) (du : Du ct ops i o a (some d)) {t : TypeId} {x ix : Operand} {ty : TypeId} (hop : o.op = .indexAddr t x ix) (hs : (sopD C s d ty (.indexAddr t x ix)).run k = some r)
  (hk : ∀ s' a', Ext s s' → k s' = some r → RS ct s' a' w → Cn a' w) : Op1 C.P rd ops Q i Cn a w := by
 simp only [sopD] at hs
 split at hs
 ·rename_i u v hu hv
  obtain ⟨uu, e1, r1⟩ := evS_ok hC h hu
  obtain ⟨vv, e2, r2⟩ := evS_ok hC h hv
  unfold indexS at hs
  split at hs
  ·rename_i kk m
   obtain rfl := RV_int r2
   split at hs
   ·rename_i b off
    split at hs
    ·rename_i n kn hA
     obtain ⟨hb, hs⟩ := chk_some hs
     obtain ⟨mb, h3, h4⟩ := RV_one' rfl r1
     cases h4
     exact tk_ok h (tk_indexPA (N := n) (k := kn) du.ho hop du.hg du.hd h.env du.lt e1 e2 hA hb fun a' hE => hk _ a' (Ext.put _ _ _) hs (h.slot du (RV_one rfl ⟨mb, h3, rfl, hb⟩) hE))
    ·split at hs
     ·rename_i n e es hA
      split at hs
      ·rename_i y hy
       cases hbb : Nat.beq es (szT T y) with
       | false => rw [hbb] at hs; cases hs
       | true =>
        rw [hbb] at hs
        obtain rfl := Nat.eq_of_beq_eq_true hbb
        obtain ⟨hb, hs⟩ := chk_some hs
        obtain ⟨mb, h3, h4⟩ := RV_one' rfl r1
        cases h4
        exact tk_ok h (tk_indexPV du.ho hop du.hg du.hd h.env du.lt e1 e2 hA hb fun a' hE => hk _ a' (Ext.put _ _ _) hs (h.slot du (RV_one rfl ⟨mb, h3, by rw [Nat.add_zero], hb⟩) hE))
      ·cases hs
     ·cases hs
   ·rename_i kn n vec
    split at hs
    ·rename_i n' k' hA
     cases hn : Nat.beq n n' with
     | false => rw [hn] at hs; cases hs
     | true =>
      rw [hn] at hs
      obtain rfl := Nat.eq_of_beq_eq_true hn
      obtain ⟨hb, hs⟩ := chk_some hs
      obtain ⟨b, off, e, h3⟩ := RV_one' rfl r1
      cases e
      exact tk_ok h (tk_indexPA (N := n) (k := k') du.ho hop du.hg du.hd h.env du.lt e1 e2 hA hb fun a' hE => hk _ a' (Ext.put _ _ _) hs (h.slot du (RV_one rfl ⟨b, off + m.toNat, rfl, h3.elemA hb⟩) hE))
    ·cases hs
   ·rename_i o'
    split at hs
    ·rename_i ver t' e' xs e y by_ hl hT
     cases hb : (Nat.beq (szT T t') (szT T y) && Nat.beq e e') with
     | false => rw [hb] at hs; cases hs
     | true =>
      rw [hb] at hs
      simp only [cond_true] at hs
      rw [Bool.and_eq_true] at hb
      have hsz := Nat.eq_of_beq_eq_true hb.1
      obtain rfl := Nat.eq_of_beq_eq_true hb.2
      obtain ⟨hT1, hT2, hT3⟩ := slT'_spec hT
      obtain ⟨z, s', hz, hs', hkk⟩ := dem_run hs
      simp only [Option.some.injEq] at hs'
      subst hs'
      obtain ⟨X, q, Y, e3, ⟨A, cap', g1, g2⟩, _, _⟩ := RLs_at h.l hl
      obtain ⟨A0, cap0, len0, g3, g4⟩ := RV_one' rfl r1
      rw [g1] at g3
      simp only [Option.some.injEq, Pl.own.injEq] at g3
      obtain ⟨rfl, rfl, rfl⟩ := g3
      cases g4
      have hn : (kdT T t').n = (kdT T y).n := by rw [← szT_n, ← szT_n]; exact hsz
      refine tk_ok h (tk_indexO (K := kdT T t') (y := z) du.ho hop du.hg du.hd h.env du.lt e1 e2 (by rw [hn]; exact hT1) g2 hz fun a' b u hq hE => hk _ a' (Ext.put _ _ _) hkk (h.slot du (RV_one rfl ⟨b, cap', xs.length, ?_, ?_, ?_⟩) hE))
      ·rw [g1]
       obtain ⟨cs, hO, _⟩ := g2
       rw [hq] at hO
       rw [hO.1]
      ·rw [szT_n, Nat.add_zero]
      ·obtain ⟨hz0, hz1⟩ := getI_some hz
       have hlt := (List.getElem?_eq_some_iff.1 hz1).1
       unfold inA
       simp only [Bool.and_eq_true, decide_eq_true_eq]
       omega
    ·exact idx_ok hC h du hop e1 e2 r1 hs hk
   ·rename_i o' j' off' es'
    split at hs
    ·rename_i n' k' hA
     obtain ⟨hb, hs⟩ := chk_some hs
     obtain ⟨mb, cap, len, h3, h4, h5⟩ := RV_one' rfl r1
     cases h4
     exact tk_ok h (tk_indexPA (N := n') (k := k') du.ho hop du.hg du.hd h.env du.lt e1 e2 hA hb fun a' hE => hk _ a' (Ext.put _ _ _) hs (h.slot du (RV_one rfl ⟨mb, cap, len, h3, by rw [Nat.add_assoc], h5⟩) hE))
    ·cases hs
   ·exact idx_ok hC h du hop e1 e2 r1 hs hk
  ·cases hs
 ·cases hs
theorem bnd_ok (hC : CxOk C ct) (h : RSx ct ρ D Lv R s a w) {x : Option Operand} {dflt z : Int} (hb : bnd? C s x dflt = some z) : bndOk (EvA a) x dflt z := by
 cases x with
 | none => simp only [bnd?, Option.some.injEq] at hb; exact hb.symm
 | some y =>
  simp only [bnd?] at hb
  split at hb
  ·rename_i kk m hm
   simp only [Option.some.injEq] at hb
   subst hb
   obtain ⟨v, e1, r1⟩ := evS_ok hC h hm
   obtain rfl := RV_int r1
   exact ⟨kk, e1⟩
  ·cases hb
theorem slice_ok (hC : CxOk C ct) (h : RSx ct ρ D Lv R s a w) (du : Du ct ops i o a (some d)) {t : TypeId} {x : Operand} {lo hi : Option Operand} (hop : o.op = .slice t x lo hi none) {u : SV T} (hu : evS C s t x = some u) (hs : (sliceS C s (some d) t u lo hi).run k = some r)
  (hk : ∀ s' a', Ext s s' → k s' = some r → RS ct s' a' w → Cn a' w) : Op1 C.P rd ops Q i Cn a w := by
 obtain ⟨uu, e1, r1⟩ := evS_ok hC h hu
 ·unfold sliceS at hs
  split at hs
  ·rename_i e y by_ hT
   obtain ⟨hT1, hT2, hT3⟩ := slT'_spec hT
   split at hs
   ·rename_i xs s1 hf
    split at hs
    ·rename_i zl zh hl hh
     obtain ⟨z, s', hz, hs', hkk⟩ := dem_run hs
     simp only [Option.some.injEq] at hs'
     subst hs'
     obtain ⟨D', Lv', A, cap, hd, h1, rfl, hSl, hx⟩ := frzSl_ok hC.tb hf h r1
     exact tk_ok h1 (g_slice (K := kdT T y) du.ho hop du.hg du.hd h1.env du.lt e1 hT1 (bnd_ok hC h hl) (bnd_ok hC h hh) hSl hz fun a' A' cap' hE hc => hk _ a' (hx.trans (Ext.put _ _ _)) hkk ⟨ρ, D', Lv', R, h1.put (fun _ _ => RV_one rfl ⟨A', cap', rfl, hc⟩) du.fr hE⟩)
    ·cases hs
   ·cases hs
  ·cases hs
theorem cv_ok (hC : CxOk C ct) (h : RSx ct ρ D Lv R s a w) (du : Du ct ops i o a (some d)) {t0 t : TypeId} {x : Operand} (hop : o.op = .convert t0 t x) {u : SV T} (hu : evS C s t0 x = some u) (hs : (cvS C s d t0 t u).run k = some r)
  (hk : ∀ s' a', Ext s s' → k s' = some r → RS ct s' a' w → Cn a' w) : Op1 C.P rd ops Q i Cn a w := by
 obtain ⟨vu, e1, r1⟩ := evS_ok hC h hu
 ·unfold cvS at hs
  split at hs
  ·rename_i k1 k2 m hk1
   obtain rfl := RV_int r1
   cases hb : (C.P.underlying t0).isSome with
   | false => rw [hb] at hs; cases hs
   | true =>
    rw [hb] at hs
    refine pure_ok h du (fun s' t' x' e => by rw [hop] at e; cases e; exact hb) (v := .int k1 (k1.wrap m)) (by rw [hop]; simp only [pureOp, hk1, e1]) (RV_i _ _) fun a' h' => hk _ _ (Ext.put _ _ _) hs h'
  ·cases hb : b2sT C.P t0 t with
   | false => rw [hb] at hs; cases hs
   | true =>
    rw [hb] at hs
    simp only [cond_true] at hs
    split at hs
    ·rename_i l s1 hf
     obtain ⟨D', Lv', A, cap, hd, h1, rfl, hSl, hx⟩ := frzSl_ok hC.tb hf h r1
     exact tk_ok h1 (tk_b2s du.ho hop du.hg du.hd h1.env du.lt h1.st e1 hb hSl (kD h1.st (fun m hm => by cases hm)) fun a' hE => hk _ a' (hx.trans (Ext.put _ _ _)) hs ⟨ρ, D', Lv', R, h1.put (fun _ _ => RV_one rfl rfl) du.fr hE⟩)
    ·cases hs
  ·cases hs
/-- a block is taken out -/
theorem RSx.del {id ver : Nat} {b : SB T} (h : RSx ct ρ D Lv R s a w) (hl : lookA s.L id = some (ver, b)) :
  ∃ X q Y, Lv = X ++ q :: Y ∧ RBk ρ D id b q ∧ Stp ct.g ct.w0 ct.D0 ct.L0 w D (q :: ((X ++ Y) ++ R)) ∧
   ∀ {w' : World} {D' : Snap} {q' : Blk} {p : Pl} {b' : SB T}, Stp ct.g ct.w0 ct.D0 ct.L0 w' D' (q' :: ((X ++ Y) ++ R)) → D.le D' → RBk (ρ.ins s.nx p) D' s.nx b' q' →
    RSx ct (ρ.ins s.nx p) D' (q' :: (X ++ Y)) R (SS.nw { s with L := delB id s.L } b') a w' := by
 obtain ⟨X, q, Y, e, h1, h2, _⟩ := RLs_at h.l hl
 subst e
 refine ⟨X, q, Y, rfl, h1, h.st.prm (perm_mid X Y R q), fun {w' D' q' p b'} hS hd hb => ?_⟩
 have hr := Rho.le_ins (p := p) h.fresh
 refine ⟨h.rb.trans hr, fun i x hx => ?_, fun e he => ?_, ?_, h.size, h.ds, fun t sv ht => ?_, ⟨q', X ++ Y, rfl, hb, RLs_mono hr hd h2⟩, hS, ct.fr.mono hd h.fr, ?_, h.exIns, h.o⟩
 ·unfold Rho.ins at hx
  show i < s.nx + 1
  split at hx
  ·omega
  ·have := h.dom _ _ hx; omega
 ·show e.2.1 < s.nx + 1
  rcases List.mem_cons.1 he with rfl | he
  ·exact Nat.lt_succ_self _
  ·have := h.ver e (delB_sub.subset he); omega
 ·show ((s.nx, s.nx, b') :: delB id s.L |>.map (·.1)).Nodup
  rw [List.map_cons, List.nodup_cons]
  refine ⟨fun hm => ?_, h.nd.sublist (delB_sub.map _)⟩
  obtain ⟨e, he, h3⟩ := List.mem_map.1 hm
  have := h.idlt (delB_sub.subset he)
  have h3 : e.1 = s.nx := h3
  omega
 ·obtain ⟨v, h3, h4⟩ := h.e t sv ht
  exact ⟨v, h3, RV_mono hr hd h4⟩
 ·refine h.ini.mv hr h.st.st hS.st fun k b2 p' hp hk => ?_
  have hlt := h.dom _ _ hp
  have hb : Nat.beq s.nx k = false := by
   cases hb : Nat.beq s.nx k with
   | true => have := Nat.eq_of_beq_eq_true hb; omega
   | false => rfl
  simp only [SS.nw, lookA, hb, cond_false] at hk
  obtain ⟨X1, q1, Y1, e1, h5, _⟩ := RLs_at h2 hk
  refine ⟨(lookA_del k h.nd hk).2, q1, D, h5, ?_, ?_⟩
  ·have : q1 ∈ X ++ Y := by rw [e1]; simp
   rcases List.mem_append.1 this with h | h <;> simp [h]
  ·rw [e1]; simp
theorem Ext.del {s : SS T} (hn : (s.L.map (·.1)).Nodup) (id : Nat) : Ext s { s with L := delB id s.L } := ⟨⟨[], rfl⟩, Nat.le_refl _, fun j v sb hl _ => (lookA_del j hn hl).2⟩
theorem append_ok (hC : CxOk C ct) (h : RSx ct ρ D Lv R s a w) (du : Du ct ops i o a (some d)) {xs : Array Operand} {ts : Array TypeId} {x y : Operand} {t : TypeId} (hop : o.op = .call { callee := .builtin .append, args := xs, argTypes := ts }) (hxs : xs.toList = [x, y]) (hts : ts.toList = [t, t])
  {u v : SV T} (hu : evS C s t x = some u) (hv : evS C s t y = some v) (hs : (appendS C.P s (some d) t u v).run k = some r)
  (hk : ∀ s' a' w', Ext s s' → k s' = some r → RS ct s' a' w' → Cn a' w') : Op1 C.P rd ops Q i Cn a w := by
 obtain ⟨uu, e1, r1⟩ := evS_ok hC h hu
 obtain ⟨vv, e2, r2⟩ := evS_ok hC h hv
 have hxs' : xs = #[x, y] := by rw [← Array.toList_inj]; simpa using hxs
 have hts' : ts = #[t, t] := by rw [← Array.toList_inj]; simpa using hts
 subst hxs' hts'
 unfold appendS at hs
 split at hs
 ·rename_i e ty by_ hT
  obtain ⟨hT1, hT2, hT3⟩ := slT'_spec hT
  split at hs
  ·rename_i ys s1 hf
   obtain ⟨D1, Lv1, A2, cap2, hd, h1, rfl, hSl, hx⟩ := frzSl_ok hC.tb hf h r2
   split at hs
   ·obtain ⟨z, s', hz, hs', hkk⟩ := dem_run hs
    simp only [Option.some.injEq] at hs'
    subst hs'
    have e3 : [uu] = [Value.slice none 0 0] := RV_one' rfl r1
    cases e3
    refine g_append (K := kdT T ty) (l := []) (q := none) du.ho hop du.hg du.hd h1.env du.lt h1.st.nils e1 e2 hT1 hT2 hT3 (OwnD.nil (f := true) _ _ _) hSl hz fun a' A' cap' q' w' _ hE hO hS' => ?_
    have h2 := h1.nw (p := .own A' cap' z.length) (b := .own ty e z true) hS' (Snap.le.refl _) ⟨A', cap', Rho.ins_at _ _ _, hO⟩
    have h3 := h2.put (d := some d) (sv := .own s1.nx) (fun _ _ => RV_one rfl ⟨A', cap', z.length, Rho.ins_at _ _ _, rfl⟩) du.fr hE
    exact hk _ a' w' (hx.trans ((Ext.nw _ _).trans (Ext.put _ _ _))) hkk ⟨_, _, _, R, h3⟩
   ·rename_i oid
    split at hs
    ·rename_i ver ty' e' xs' f hlk
     cases hee : Nat.beq e e' with
     | false => rw [hee] at hs; cases hs
     | true =>
      rw [hee] at hs
      obtain rfl := Nat.eq_of_beq_eq_true hee
      simp only [cond_true] at hs
      split at hs
      ·rename_i xs2 hcast
       obtain ⟨ec, rfl⟩ := castT_some hcast
       cases ec
       obtain ⟨z, s', hz, hs', hkk⟩ := dem_run hs
       simp only [Option.some.injEq] at hs'
       subst hs'
       obtain ⟨A, cap, len, h5, e5⟩ := RV_one' rfl r1
       cases e5
       obtain ⟨X, q, Y, _, ⟨A', cap', h6, hO⟩, hS, hback⟩ := h1.del hlk
       rw [h5] at h6
       cases h6
       refine g_append (K := kdT T ty) (l := xs') (q := q) (f := f) du.ho hop du.hg du.hd h1.env du.lt hS e1 e2 hT1 hT2 hT3 hO hSl hz fun a' A' cap' q' w' _ hE hO hS' => ?_
       have h2 := hback (p := .own A' cap' z.length) (b' := .own ty e z f) hS' (Snap.le.refl _) ⟨A', cap', Rho.ins_at _ _ _, hO⟩
       have h3 := h2.put (d := some d) (sv := .own s1.nx) (fun _ _ => RV_one rfl ⟨A', cap', z.length, Rho.ins_at _ _ _, rfl⟩) du.fr hE
       exact hk _ a' w' (hx.trans ((Ext.del h1.nd oid).trans ((Ext.nw _ _).trans (Ext.put _ _ _)))) hkk ⟨_, _, _, R, h3⟩
      ·cases hs
    ·cases hs
   ·cases hs
  ·cases hs
 ·cases hs
/-! ### literals -/
theorem fillS_ok (hC : CxOk C ct) (h : RSx ct ρ D Lv R s a w) {pl : Nat → Option (Nat × Nat)} {ty : Nat → TypeId} : ∀ (ps : List (Nat × Operand)) (l l' : SV T) (c : List Value), fillS C s pl ty ps l = some l' → RX ρ D l false c →
  ∃ vs c', evalParts (EvA a) ps = some vs ∧ fillL pl c vs = some c' ∧ RX ρ D l' false c'
 | [], l, l', c, hf, hc => by
  simp only [fillS, Option.some.injEq] at hf
  subst hf
  exact ⟨[], c, rfl, rfl, hc⟩
 | (j, x) :: ps, l, l', c, hf, hc => by
  unfold fillS at hf
  split at hf
  ·rename_i off sz u hp hu
   cases hb : Nat.beq (szS u) sz with
   | false => rw [hb] at hf; cases hf
   | true =>
    rw [hb] at hf
    simp only [cond_true] at hf
    split at hf
    ·rename_i l1 hl1
     obtain ⟨v, e1, r1⟩ := evS_ok hC h hu
     have hcu := RV_cells r1
     have hlen := RX_len _ _ hcu
     have hsz := Nat.eq_of_beq_eq_true hb
     obtain ⟨g1, g2⟩ := setL_RX hC.tb _ _ _ _ _ _ _ _ _ hl1 hc hcu (by omega)
     obtain ⟨vs, c', g3, g4, g5⟩ := fillS_ok hC h ps l1 l' _ hf g2
     refine ⟨(j, v) :: vs, c', by simp only [evalParts, e1, g3], ?_, g5⟩
     simp only [fillL, hp]
     rw [show (Nat.beq (vcells v).length sz && Nat.ble (off + sz) c.length) = true by
      rw [show (vcells v).length = sz by omega, Nat.beq_refl, ble_t g1]; rfl]
     exact g4
    ·cases hf
  ·cases hf
theorem repS_RX {v : SV T} {c : List Value} (h : RX ρ D v false c) : ∀ n, RX ρ D (repS v n) false (zerosL c n)
 | 0 => rfl
 | n + 1 => ⟨c, zerosL c n, rfl, h, repS_RX h n⟩
theorem intsS_RX {kk : IntKind} : ∀ (l : SV T) (xs : List Int) (c : List Value), intsS kk l = some xs → RX ρ D l false c → c = xs.map (.int kk)
 | .nl, xs, c, h, hc => by
  simp only [intsS, Option.some.injEq] at h
  subst h
  exact hc
 | .cs (.dt (.int k') x) l, xs, c, h, hc => by
  simp only [intsS] at h
  cases hk : sameKind kk k' with
  | false => rw [hk] at h; cases h
  | true =>
   rw [hk] at h
   obtain rfl := sameKind_eq hk
   simp only [cond_true] at h
   split at h
   ·rename_i xs1 h1
    simp only [Option.some.injEq] at h
    subst h
    obtain ⟨c1, c2, rfl, r1, r2⟩ := hc
    have r1 : c1 = [.int kk x] := r1
    rw [intsS_RX l xs1 c2 h1 r2, r1]; rfl
   ·cases h
 | .cs (.dt .bool _) _, _, _, h, _ => by simp [intsS] at h
 | .cs (.dt .str _) _, _, _, h, _ => by simp [intsS] at h
 | .cs (.dt (.arr _ _) _) _, _, _, h, _ => by simp [intsS] at h
 | .cs (.dt (.sl _) _) _, _, _, h, _ => by simp [intsS] at h
 | .cs (.dt (.st _) _) _, _, _, h, _ => by simp [intsS] at h
 | .cs (.kb _) _, _, _, h, _ => by simp [intsS] at h
 | .cs (.raw _) _, _, _, h, _ => by simp [intsS] at h
 | .cs .nils _, _, _, h, _ => by simp [intsS] at h
 | .cs (.agg _) _, _, _, h, _ => by simp [intsS] at h
 | .cs (.tup _) _, _, _, h, _ => by simp [intsS] at h
 | .cs (.fn _ _) _, _, _, h, _ => by simp [intsS] at h
 | .cs .nl _, _, _, h, _ => by simp [intsS] at h
 | .cs (.cs _ _) _, _, _, h, _ => by simp [intsS] at h
 | .cs (.ptr _ _) _, _, _, h, _ => by simp [intsS] at h
 | .cs (.cell _ _) _, _, _, h, _ => by simp [intsS] at h
 | .cs (.own _) _, _, _, h, _ => by simp [intsS] at h
 | .cs (.elt _ _ _ _) _, _, _, h, _ => by simp [intsS] at h
 | .cs (.ela _ _ _ _ _) _, _, _, h, _ => by simp [intsS] at h
 | .cs (.eva _ _ _ _ _ _) _, _, _, h, _ => by simp [intsS] at h
 | .dt _ _, _, _, h, _ => by simp only [intsS, reduceCtorEq] at h
 | .kb _, _, _, h, _ => by simp only [intsS, reduceCtorEq] at h
 | .raw _, _, _, h, _ => by simp only [intsS, reduceCtorEq] at h
 | .nils, _, _, h, _ => by simp only [intsS, reduceCtorEq] at h
 | .agg _, _, _, h, _ => by simp only [intsS, reduceCtorEq] at h
 | .tup _, _, _, h, _ => by simp only [intsS, reduceCtorEq] at h
 | .fn _ _, _, _, h, _ => by simp only [intsS, reduceCtorEq] at h
 | .ptr _ _, _, _, h, _ => by simp only [intsS, reduceCtorEq] at h
 | .cell _ _, _, _, h, _ => by simp only [intsS, reduceCtorEq] at h
 | .own _, _, _, h, _ => by simp only [intsS, reduceCtorEq] at h
 | .elt _ _ _ _, _, _, h, _ => by simp only [intsS, reduceCtorEq] at h
 | .ela _ _ _ _ _, _, _, h, _ => by simp only [intsS, reduceCtorEq] at h
 | .eva _ _ _ _ _ _, _, _, h, _ => by simp only [intsS, reduceCtorEq] at h
theorem intL_RX {kk : IntKind} : ∀ (l : List Int), RX ρ D (intL kk l : SV T) false (l.map (.int kk))
 | [] => rfl
 | x :: l => ⟨[.int kk x], l.map (.int kk), rfl, rfl, intL_RX l⟩
theorem fillL_len {pl : Nat → Option (Nat × Nat)} : ∀ (ps : List (Nat × Value)) (c c' : List Value), fillL pl c ps = some c' → c'.length = c.length
 | [], c, c', h => by simp only [fillL, Option.some.injEq] at h; rw [h]
 | (j, v) :: ps, c, c', h => by
  simp only [fillL] at h
  split at h
  ·cases h
  ·rename_i off sz _
   cases hb : (Nat.beq (vcells v).length sz && Nat.ble (off + sz) c.length) with
   | false => rw [hb] at h; cases h
   | true =>
    rw [hb] at h
    simp only [Bool.and_eq_true] at hb
    have h1 := Nat.eq_of_beq_eq_true hb.1
    have h2 := Nat.le_of_ble_eq_true hb.2
    rw [fillL_len ps _ c' h]
    unfold setCells
    simp; omega
theorem build_ok (hC : CxOk C ct) (h : RSx ct ρ D Lv R s a w) (du : Du ct ops i o a (some d)) {t : TypeId} {ps : Array (Nat × Operand)} {ty : TypeId} (hop : o.op = .build t ps) (hs : (sopD C s d ty (.build t ps)).run k = some r)
  (hk : ∀ s' a', Ext s s' → k s' = some r → RS ct s' a' w → Cn a' w) : Op1 C.P rd ops Q i Cn a w := by
 simp only [sopD] at hs
 obtain ⟨sv, h1, h2⟩ := okO_run hs
 have key : ∀ vs c, evalParts (EvA a) ps.toList = some vs → bld C.P t vs = some c → RV ρ D sv (.agg c.toArray) → Op1 C.P rd ops Q i Cn a w := fun vs c g1 g2 g3 =>
  tk_ok h (tk_build c du.ho hop du.hg du.hd h.env du.lt g1 g2 fun a' hE => hk _ a' (Ext.put _ _ _) h2 (h.slot du g3 hE))
 unfold buildS at h1
 split at h1
 ·rename_i fs ii hu hi
  split at h1
  ·rename_i l pl hz hpl
   split at h1
   ·rename_i l' hf
    simp only [Option.some.injEq] at h1
    subst h1
    obtain ⟨z, hzz, r1⟩ := zeroS_RX ρ D hz
    obtain ⟨vs, c', g1, g2, g3⟩ := fillS_ok hC h _ _ _ _ hf r1
    rw [hi] at hzz
    refine key vs c' g1 ?_ (RV_ag rfl g3)
    unfold bld
    rw [hu, hi]
    simp only
    rw [show ii.zero = some z from hzz]
    unfold places at hpl
    rw [hpl]
    exact g2
   ·cases h1
  ·cases h1
 ·rename_i n e ii hu hi
  split at h1
  ·rename_i kk q k' n' x0 hue hq hz
   cases hb : (sameKind kk k' && (Nat.beq n n' && Nat.beq q.size 1)) with
   | false => rw [hb] at h1; cases h1
   | true =>
    rw [hb] at h1
    simp only [Bool.and_eq_true] at hb
    simp only [cond_true] at h1
    obtain rfl := sameKind_eq hb.1
    obtain rfl := Nat.eq_of_beq_eq_true hb.2.1
    have hq1 := Nat.eq_of_beq_eq_true hb.2.2
    split at h1
    ·rename_i l hf
     split at h1
     ·rename_i xs hxs
      simp only [Option.some.injEq] at h1
      subst h1
      obtain ⟨z, hzz, r1⟩ := zeroS_RX ρ D hz
      have r1 : vcells z = acells kk n x0 := r1
      obtain ⟨vs, c', g1, g2, g3⟩ := fillS_ok hC h _ _ _ _ hf (intL_RX (vlist x0))
      have g4 := intsS_RX l xs c' hxs g3
      have g5 := fillL_len _ _ _ g2
      rw [hi] at hzz
      have hl : xs.length = n := by
       rw [g4] at g5
       simpa [vlist_length] using g5
      refine key vs c' g1 ?_ (RV_ag rfl ?_)
      ·unfold bld
       rw [hu, hi]
       simp only
       rw [show ii.zero = some z from hzz, hq]
       simp only
       rw [r1, acells_vlist]
       exact g2
      ·show c' = acells kk n (vofL n xs)
       rw [acells_ofL (by omega), List.take_of_length_le (by omega)]
       exact g4
     ·cases h1
    ·cases h1
  ·rename_i q l _ hq hz
   split at h1
   ·rename_i l' hf
    simp only [Option.some.injEq] at h1
    subst h1
    obtain ⟨z, hzz, r1⟩ := zeroS_RX ρ D hz
    obtain ⟨vs, c', g1, g2, g3⟩ := fillS_ok hC h _ _ _ _ hf r1
    rw [hi] at hzz
    refine key vs c' g1 ?_ (RV_ag rfl g3)
    unfold bld
    rw [hu, hi]
    simp only
    rw [show ii.zero = some z from hzz, hq]
    exact g2
   ·cases h1
  ·cases h1
 ·cases h1
theorem frzI_ok (hT : TbOk T) {y : Ty} : ∀ (l : SV T) (s : SS T) (xs : List (den T.ty y)) (s' : SS T) (D : Snap) (Lv : List Blk) (c : List Value), frzI y s l = some (xs, s') → RSx ct ρ D Lv R s a w → RX ρ D l false c →
  ∃ D' Lv', D.le D' ∧ RSx ct ρ D' Lv' R s' a w ∧ RL (kdT T y) D' xs c ∧ Ext s s'
 | .nl, s, xs, s', D, Lv, c, h, hS, hc => by
  simp only [frzI, Option.some.injEq, Prod.mk.injEq] at h
  obtain ⟨rfl, rfl⟩ := h
  exact ⟨D, Lv, Snap.le.refl D, hS, hc, Ext.refl _⟩
 | .cs u l, s, xs, s', D, Lv, c, h, hS, hc => by
  simp only [frzI] at h
  split at h
  ·rename_i x1 s1 h1
   split at h
   ·rename_i xs2 s2 h2
    simp only [Option.some.injEq, Prod.mk.injEq] at h
    obtain ⟨rfl, rfl⟩ := h
    obtain ⟨c1, c2, rfl, r1, r2⟩ := hc
    obtain ⟨D1, Lv1, d1, g1, g2, g3⟩ := frz_ok hT 60 _ _ _ _ _ D Lv c1 h1 hS r1
    obtain ⟨D2, Lv2, d2, k1, k2, k3⟩ := frzI_ok hT l s1 xs2 s2 D1 Lv1 c2 h2 g1 (RX_mono (Rho.le.refl _) d1 _ _ _ r2)
    exact ⟨D2, Lv2, d1.trans d2, k1, ⟨c1, c2, rfl, (kdT T y).mono _ _ _ _ d2 g2, k2⟩, g3.trans k3⟩
   ·cases h
  ·cases h
 | .dt _ _, _, _, _, _, _, _, h, _, _ => by simp only [frzI, reduceCtorEq] at h
 | .kb _, _, _, _, _, _, _, h, _, _ => by simp only [frzI, reduceCtorEq] at h
 | .raw _, _, _, _, _, _, _, h, _, _ => by simp only [frzI, reduceCtorEq] at h
 | .nils, _, _, _, _, _, _, h, _, _ => by simp only [frzI, reduceCtorEq] at h
 | .agg _, _, _, _, _, _, _, h, _, _ => by simp only [frzI, reduceCtorEq] at h
 | .tup _, _, _, _, _, _, _, h, _, _ => by simp only [frzI, reduceCtorEq] at h
 | .fn _ _, _, _, _, _, _, _, h, _, _ => by simp only [frzI, reduceCtorEq] at h
 | .ptr _ _, _, _, _, _, _, _, h, _, _ => by simp only [frzI, reduceCtorEq] at h
 | .cell _ _, _, _, _, _, _, _, h, _, _ => by simp only [frzI, reduceCtorEq] at h
 | .own _, _, _, _, _, _, _, h, _, _ => by simp only [frzI, reduceCtorEq] at h
 | .elt _ _ _ _, _, _, _, _, _, _, h, _, _ => by simp only [frzI, reduceCtorEq] at h
 | .ela _ _ _ _ _, _, _, _, _, _, _, h, _, _ => by simp only [frzI, reduceCtorEq] at h
 | .eva _ _ _ _ _ _, _, _, _, _, _, _, h, _, _ => by simp only [frzI, reduceCtorEq] at h
theorem bsl_ok (hC : CxOk C ct) (h : RSx ct ρ D Lv R s a w) (du : Du ct ops i o a (some d)) {t : TypeId} {n : Nat} {ps : Array (Nat × Operand)} (hop : o.op = .buildSlice t n ps) (hs : (bslS C s d t n ps.toList).run k = some r)
  (hk : ∀ s' a' w', Ext s s' → k s' = some r → RS ct s' a' w' → Cn a' w') : Op1 C.P rd ops Q i Cn a w := by
 unfold bslS at hs
 split at hs
 ·rename_i e y by_ hT
  obtain ⟨hT1, hT2, hT3⟩ := slT'_spec hT
  cases hb : (Nat.ble n 1000 && Nat.blt 0 (szT T y) && Nat.ble (szT T y) 10000) with
  | false => rw [hb] at hs; cases hs
  | true =>
   rw [hb] at hs
   simp only [cond_true] at hs
   simp only [Bool.and_eq_true] at hb
   have hn := Nat.le_of_ble_eq_true hb.1.1
   have hsz := Nat.le_of_ble_eq_true hb.2
   split at hs
   ·rename_i z hz
    split at hs
    ·rename_i l hf
     split at hs
     ·rename_i xs s1 hfr
      obtain ⟨zz, hzz, r1⟩ := zeroS_RX ρ D hz
      obtain ⟨vs, c', g1, g2, g3⟩ := fillS_ok hC h _ _ _ _ hf (repS_RX r1 n)
      obtain ⟨D', Lv', hd, h1, hRL, hx⟩ := frzI_ok hC.tb l s xs s1 D Lv c' hfr h g3
      obtain ⟨hu, ii, z2, hi, hz2, hs1, hs2, hs3⟩ := slT_spec hT1
      rw [hi] at hzz
      have hzz : ii.zero = some zz := hzz
      rw [hz2] at hzz
      cases hzz
      have hlen : xs.length = n := by
       have e1 := hRL.len
       rw [fillL_len _ _ _ g2, zerosL_length, hs3] at e1
       have : 0 < (kdT T y).n := by simpa [Nat.blt_eq] using hT2
       exact (Nat.eq_of_mul_eq_mul_right this e1).symm
      refine op_buildSlice (K := kdT T y) (e := e) (cs := c') xs du.ho hop du.hg du.hd h1.env du.lt h1.st g1 ?_ hlen (ble_t (by omega)) hRL fun a' A q w' _ hE hO hS' => ?_
      ·unfold bsl
       rw [hu]
       simp only [hi, hz2, hs1]
       rw [szT_n] at hsz
       have h5 : n * (kdT T y).n ≤ 1000 * 10000 := Nat.mul_le_mul hn hsz
       rw [show (Nat.ble (n * (kdT T y).n) 16777216 && (Nat.blt 0 (kdT T y).n && Nat.beq (vcells zz).length (kdT T y).n)) = true by
        rw [ble_t (by omega), hT2, hs3, Nat.beq_refl]; rfl]
       simp only [cond_true]
       rw [szT_n] at g2
       rw [g2]; rfl
      ·have h2 := h1.nw (p := .own A n xs.length) (b := .own y e xs true) hS' (Snap.le.refl _) ⟨A, n, Rho.ins_at _ _ _, hO⟩
       have h3 := h2.put (d := some d) (sv := .own s1.nx) (fun _ _ => RV_one rfl ⟨A, n, xs.length, Rho.ins_at _ _ _, rfl⟩) du.fr hE
       exact hk _ a' w' (hx.trans ((Ext.nw _ _).trans (Ext.put _ _ _))) hs ⟨_, _, _, R, h3⟩
     ·cases hs
    ·cases hs
   ·cases hs
 ·cases hs
end
end Go.Sep
