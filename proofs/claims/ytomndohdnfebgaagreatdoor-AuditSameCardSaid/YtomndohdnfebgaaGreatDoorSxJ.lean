/-
 Symbolic execution: patterns are filled in; blocks are matched and taken; what a function's contract says.
-/
import Derived.Test.YtomndohdnfebgaaGreatDoorSxI
namespace Go.Sep
section
variable {T : Tb} {C : Cx T} {ct : Ct} {ρ : Rho} {D : Snap} {Lv R : List Blk} {s : SS T} {a : Act} {w : World}
/-- the entries that owned slices come to -/
def OEs (O : OwT T) : Nat → List (Nat × Pl) → List (Nat × Nat × SB T) → Prop
 | _, [], es => es = []
 | n, x :: os, es => ∃ (t : Ty) (e : TypeId) (f : Bool) (xs : List (den T.ty t)) (A : Option Addr) (cap : Nat) (es' : List (Nat × Nat × SB T)), es = (n, n, .own t e xs f) :: es' ∧ x.2 = .own A cap xs.length ∧ O x.1 t e f xs A cap ∧ OEs O (n + 1) os es'
theorem OEs_app {O : OwT T} : ∀ {n : Nat} {o1 o2 : List (Nat × Pl)} {e1 e2 : List (Nat × Nat × SB T)}, OEs O n o1 e1 → OEs O (n + o1.length) o2 e2 → OEs O n (o1 ++ o2) (e1 ++ e2)
 | n, [], o2, e1, e2, h1, h2 => by
  have h1 : e1 = [] := h1
  subst h1
  simpa using h2
 | n, x :: o1, o2, e1, e2, ⟨t, e, f, xs, A, cap, es', h3, h4, h5, h6⟩, h2 => by
  subst h3
  refine ⟨t, e, f, xs, A, cap, es' ++ e2, rfl, h4, h5, OEs_app h6 ?_⟩
  rw [show n + 1 + o1.length = n + (x :: o1).length by simp; omega]
  exact h2
/-- a pattern filled in: what comes of it -/
structure InsR (O : OwT T) (m m' : Im T) (rest : List (Dy T)) (os : List (Nat × Pl)) : Prop where
 dy : m'.dy = rest
 nx : m'.nx = m.nx + os.length
 L : ∃ es, m'.L = es.reverse ++ m.L ∧ OEs O m.nx os es
theorem inst_ok {β : Nat → Option Nat} {O : OwT T} {bd : List (Nat × Nat)} : ∀ (p : Pt) (md : Bool) (m m' : Im T) (v : SV T) (ds : List (Dy T)) (os : List (Nat × Pl)) (c : List Value) (rest : List (Dy T)), inst bd p m = some (v, m') → m.dy = ds ++ rest → PR β D O p md ds os c →
  agS v = agP p ∧ InsR O m m' rest os ∧ ∀ ρ' : Rho, (∀ b n i, β b = some n → lookA bd b = some i → ρ' i = some (.blk n)) → (∀ k x, os[k]? = some x → ρ' (m.nx + k) = some x.2) → RX ρ' D v md c := by
 intro p
 induction p with
 | dt t =>
  rintro md m m' v ds os c rest h hm ⟨x, rfl, rfl, h3⟩
  simp only [inst, hm, List.cons_append, List.nil_append, Option.some.injEq, Prod.mk.injEq] at h
  obtain ⟨rfl, rfl⟩ := h
  exact ⟨rfl, ⟨rfl, rfl, [], rfl, rfl⟩, fun _ _ _ => h3⟩
 | own t e f =>
  rintro md m m' v ds os c rest h hm ⟨xs, o, A, cap, rfl, rfl, rfl, h4⟩
  simp only [inst, hm, List.cons_append, List.nil_append, Option.some.injEq, Prod.mk.injEq] at h
  obtain ⟨rfl, rfl⟩ := h
  exact ⟨rfl, ⟨rfl, rfl, [(m.nx, m.nx, .own t e xs f)], rfl, t, e, f, xs, A, cap, [], rfl, rfl, h4, rfl⟩, fun ρ' _ ho => ⟨A, cap, xs.length, ho 0 _ rfl, rfl⟩⟩
 | agg l ih =>
  intro md m m' v ds os c rest h hm hp
  simp only [inst] at h
  split at h
  ·rename_i u m1 h1
   simp only [Option.some.injEq, Prod.mk.injEq] at h
   obtain ⟨rfl, rfl⟩ := h
   obtain ⟨_, h2, h3⟩ := ih false m m1 u ds os c rest h1 hm hp
   exact ⟨rfl, h2, h3⟩
  ·cases h
 | nl =>
  rintro md m m' v ds os c rest h hm ⟨rfl, rfl, rfl⟩
  simp only [inst, Option.some.injEq, Prod.mk.injEq] at h
  obtain ⟨rfl, rfl⟩ := h
  exact ⟨rfl, ⟨hm, rfl, [], rfl, rfl⟩, fun _ _ _ => rfl⟩
 | cs p q ih1 ih2 =>
  intro md m m' v ds os c rest h hm hp
  simp only [inst] at h
  split at h
  ·rename_i u m1 h1
   split at h
   ·rename_i l m2 h2
    simp only [Option.some.injEq, Prod.mk.injEq] at h
    obtain ⟨rfl, rfl⟩ := h
    have comb : ∀ {d1 d2 : List (Dy T)} {o1 o2 : List (Nat × Pl)}, InsR O m m1 (d2 ++ rest) o1 → InsR O m1 m2 rest o2 → InsR O m m2 rest (o1 ++ o2) := by
     intro d1 d2 o1 o2 i1 i2
     obtain ⟨e1, g1, g2⟩ := i1.L
     obtain ⟨e2, g3, g4⟩ := i2.L
     refine ⟨i2.dy, by rw [i2.nx, i1.nx]; simp; omega, e1 ++ e2, by rw [g3, g1]; simp, OEs_app g2 ?_⟩
     rw [← i1.nx]; exact g4
    cases md with
    | false =>
     obtain ⟨d1, d2, o1, o2, c1, c2, rfl, rfl, rfl, p1, p2⟩ := hp
     obtain ⟨_, i1, r1⟩ := ih1 false m m1 u d1 o1 c1 (d2 ++ rest) h1 (by rw [hm]; simp) p1
     obtain ⟨_, i2, r2⟩ := ih2 false m1 m2 l d2 o2 c2 rest h2 i1.dy p2
     refine ⟨rfl, comb (d1 := d1) i1 i2, fun ρ' hb ho => ⟨c1, c2, rfl, r1 ρ' hb fun k x hx => ho k x (by rw [List.getElem?_append_left (List.getElem?_eq_some_iff.1 hx).1]; exact hx), r2 ρ' hb fun k x hx => ?_⟩⟩
     rw [i1.nx, Nat.add_assoc]
     exact ho _ x (by rw [List.getElem?_append_right (Nat.le_add_right _ _), Nat.add_sub_cancel_left]; exact hx)
    | true =>
     obtain ⟨d1, d2, o1, o2, vv, c2, rfl, rfl, rfl, p1, p2⟩ := hp
     cases ha : agP p with
     | true =>
      rw [ha] at p1
      obtain ⟨c1, p1, rfl⟩ := p1
      obtain ⟨a1, i1, r1⟩ := ih1 false m m1 u d1 o1 c1 (d2 ++ rest) h1 (by rw [hm]; simp) p1
      obtain ⟨_, i2, r2⟩ := ih2 true m1 m2 l d2 o2 c2 rest h2 i1.dy p2
      refine ⟨rfl, comb (d1 := d1) i1 i2, fun ρ' hb ho => ⟨_, c2, rfl, ?_, r2 ρ' hb fun k x hx => ?_⟩⟩
      ·rw [a1, ha]
       exact ⟨c1, r1 ρ' hb fun k x hx => ho k x (by rw [List.getElem?_append_left (List.getElem?_eq_some_iff.1 hx).1]; exact hx), rfl⟩
      ·rw [i1.nx, Nat.add_assoc]
       exact ho _ x (by rw [List.getElem?_append_right (Nat.le_add_right _ _), Nat.add_sub_cancel_left]; exact hx)
     | false =>
      rw [ha] at p1
      obtain ⟨a1, i1, r1⟩ := ih1 false m m1 u d1 o1 [vv] (d2 ++ rest) h1 (by rw [hm]; simp) p1
      obtain ⟨_, i2, r2⟩ := ih2 true m1 m2 l d2 o2 c2 rest h2 i1.dy p2
      refine ⟨rfl, comb (d1 := d1) i1 i2, fun ρ' hb ho => ⟨_, c2, rfl, ?_, r2 ρ' hb fun k x hx => ?_⟩⟩
      ·rw [a1, ha]
       exact r1 ρ' hb fun k x hx => ho k x (by rw [List.getElem?_append_left (List.getElem?_eq_some_iff.1 hx).1]; exact hx)
      ·rw [i1.nx, Nat.add_assoc]
       exact ho _ x (by rw [List.getElem?_append_right (Nat.le_add_right _ _), Nat.add_sub_cancel_left]; exact hx)
   ·cases h
  ·cases h
 | ptr b off =>
  rintro md m m' v ds os c rest h hm ⟨rfl, rfl, n, h3, rfl⟩
  simp only [inst] at h
  split at h
  ·rename_i i hi
   simp only [Option.some.injEq, Prod.mk.injEq] at h
   obtain ⟨rfl, rfl⟩ := h
   exact ⟨rfl, ⟨hm, rfl, [], rfl, rfl⟩, fun ρ' hb _ => ⟨n, hb _ _ _ h3 hi, rfl⟩⟩
  ·cases h
 | fn f l ih =>
  rintro md m m' v ds os c rest h hm ⟨vs, hp, rfl⟩
  simp only [inst] at h
  split at h
  ·rename_i u m1 h1
   simp only [Option.some.injEq, Prod.mk.injEq] at h
   obtain ⟨rfl, rfl⟩ := h
   obtain ⟨_, h2, h3⟩ := ih true m m1 u ds os vs rest h1 hm hp
   exact ⟨rfl, h2, fun ρ' hb ho => ⟨vs, h3 ρ' hb ho, rfl⟩⟩
  ·cases h
 | raw x =>
  rintro md m m' v ds os c rest h hm ⟨rfl, rfl, rfl⟩
  simp only [inst, Option.some.injEq, Prod.mk.injEq] at h
  obtain ⟨rfl, rfl⟩ := h
  exact ⟨agS_raw, ⟨hm, rfl, [], rfl, rfl⟩, fun _ _ _ => rfl⟩
 | nils =>
  rintro md m m' v ds os c rest h hm ⟨rfl, rfl, rfl⟩
  simp only [inst, Option.some.injEq, Prod.mk.injEq] at h
  obtain ⟨rfl, rfl⟩ := h
  exact ⟨rfl, ⟨hm, rfl, [], rfl, rfl⟩, fun _ _ _ => rfl⟩
 | kb b =>
  rintro md m m' v ds os c rest h hm ⟨rfl, rfl, rfl⟩
  simp only [inst, Option.some.injEq, Prod.mk.injEq] at h
  obtain ⟨rfl, rfl⟩ := h
  exact ⟨rfl, ⟨hm, rfl, [], rfl, rfl⟩, fun _ _ _ => rfl⟩
/-! ### tuples -/
theorem ofU_cons : ∀ (t : Ty) (ts : List Ty) (x : den T.ty t) (p : TU T.ty ts), ofU (t :: ts) (consU t ts x p) = (⟨t, x⟩ : Dy T) :: ofU ts p
 | _, [], _, _ => rfl
 | _, _ :: _, _, _ => rfl
theorem toU_ofU : ∀ {ts : List Ty} {ds : List (Dy T)} {p : TU T.ty ts}, toU ts ds = some p → ofU ts p = ds
 | [], [], _, _ => rfl
 | [], _ :: _, _, h => by simp only [toU, reduceCtorEq] at h
 | _ :: _, [], _, h => by simp only [toU, reduceCtorEq] at h
 | t :: ts, d :: ds, p, h => by
  simp only [toU] at h
  split at h
  ·rename_i x q hx hq
   simp only [Option.some.injEq] at h
   subst h
   obtain ⟨e, rfl⟩ := castT_some hx
   obtain ⟨t', y⟩ := d
   cases e
   rw [ofU_cons, toU_ofU hq]
  ·cases h
/-! ### blocks -/
def PRB (β : Nat → Option Nat) (D : Snap) (O : OwT T) : List (TypeId × Pt) → Nat → List (Dy T) → List (Nat × Pl) → List Blk → Prop
 | [], _, ds, os, Bs => ds = [] ∧ os = [] ∧ Bs = []
 | tp :: bs, i, ds, os, Bs => ∃ d1 d2 o1 o2 n c Bs', ds = d1 ++ d2 ∧ os = o1 ++ o2 ∧ β i = some n ∧ Bs = bx n tp.1 c :: Bs' ∧ PR β D O tp.2 false d1 o1 c ∧ PRB β D O bs (i + 1) d2 o2 Bs'
def PRO (β : Nat → Option Nat) (D : Snap) (O : OwT T) : List (TypeId × Pt) → List (Option Pt) → Nat → List (Dy T) → List (Nat × Pl) → List Blk → List Blk → Prop
 | [], [], _, ds, os, B, B' => ds = [] ∧ os = [] ∧ B = [] ∧ B' = []
 | _ :: bs, none :: ps, i, ds, os, B, B' => ∃ q B1 B1', B = q :: B1 ∧ B' = q :: B1' ∧ PRO β D O bs ps (i + 1) ds os B1 B1'
 | tp :: bs, some p :: ps, i, ds, os, B, B' => ∃ d1 d2 o1 o2 n c q B1 B1', ds = d1 ++ d2 ∧ os = o1 ++ o2 ∧ β i = some n ∧ B = q :: B1 ∧ B' = bx n tp.1 c :: B1' ∧ PR β D O p false d1 o1 c ∧ PRO β D O bs ps (i + 1) d2 o2 B1 B1'
 | _, _, _, _, _, _, _ => False
/-- blocks that were matched: as they lay in a state that s came from -/
def BwS (ρ : Rho) (w : World) (s : SS T) : List (Nat × Nat) → List Blk → Prop
 | [], Bs => Bs = []
 | x :: bw, Bs => ∃ (s1 : SS T) (t : TypeId) (v : SV T) (n : Nat) (c : List Value) (Bs' : List Blk), Ext s1 s ∧ lookA s1.L x.1 = some (x.2, .var t v) ∧ x.2 < s1.nx ∧ ρ x.1 = some (.blk n) ∧ Bs = bx n t c :: Bs' ∧ w.heap[n]? = some (.cells c.toArray t (0, 0)) ∧ BwS ρ w s bw Bs'
theorem BwS_mono {ρ ρ' : Rho} {w : World} {s s' : SS T} (hr : ρ.le ρ') (hx : Ext s s') : ∀ {bw : List (Nat × Nat)} {Bs : List Blk}, BwS ρ w s bw Bs → BwS ρ' w s' bw Bs
 | [], _, h => h
 | _ :: _, _, ⟨s1, t, v, n, c, Bs', h1, h2, h3, h4, h5, h6, h7⟩ => ⟨s1, t, v, n, c, Bs', h1.trans hx, h2, h3, hr _ _ h4, h5, h6, BwS_mono hr hx h7⟩
theorem matB_ok (hT : TbOk T) : ∀ (bs : List (TypeId × Pt)) (i : Nat) (m m' : Mt T) (bw : List (Nat × Nat)) (ρ : Rho) (D : Snap) (Lv : List Blk), matB bs i m = some (m', bw) → RSx ct ρ D Lv R m.s a w →
  ∃ ρ' D' Lv' dn on os Bs, MatR ct ρ D R m m' a w ρ' D' Lv' dn on ∧ os.map (·.1) = on.map (·.1) ∧ PRB (bet ρ' m'.bd) D' (OwS ρ' m'.s m'.ow) bs i dn os Bs ∧ BwS ρ' w m'.s bw Bs ∧ (∀ k x, bw[k]? = some x → lookA m'.bd (i + k) = some x.1) ∧ bw.length = bs.length
 | [], i, m, m', bw, ρ, D, Lv, h, hS => by
  simp only [matB, Option.some.injEq, Prod.mk.injEq] at h
  obtain ⟨rfl, rfl⟩ := h
  exact ⟨ρ, D, Lv, [], [], [], [], ⟨Rho.le.refl _, Snap.le.refl _, hS, Ext.refl _, rfl, rfl, fun _ _ h => h⟩, rfl, ⟨rfl, rfl, rfl⟩, rfl, fun k x hx => by simp at hx, rfl⟩
 | (t, p) :: bs, i, m, m', bw, ρ, D, Lv, h, hS => by
  simp only [matB] at h
  split at h
  ·rename_i id hid
   split at h
   ·rename_i ver t' v hl
    cases ht : Nat.beq t t' with
    | false => rw [ht] at h; cases h
    | true =>
     rw [ht] at h
     obtain rfl := Nat.eq_of_beq_eq_true ht
     simp only [cond_true] at h
     split at h
     ·rename_i m1 hm1
      split at h
      ·rename_i m2 bw2 hm2
       simp only [Option.some.injEq, Prod.mk.injEq] at h
       obtain ⟨rfl, rfl⟩ := h
       obtain ⟨X, Y, n, c, e, g1, g2, g3, _⟩ := hS.var hl
       obtain ⟨ρ1, D1, Lv1, dn1, on1, os1, M1, E1, P1⟩ := mat_ok hT p v m m1 ρ D Lv false c hm1 hS g2
       obtain ⟨ρ2, D2, Lv2, dn2, on2, os2, Bs2, M2, E2, P2, B2, K2, N2⟩ := matB_ok hT bs (i + 1) m1 m2 bw2 ρ1 D1 Lv1 hm2 M1.rs
       have hr := M1.rho.trans M2.rho
       refine ⟨ρ2, D2, Lv2, dn1 ++ dn2, on1 ++ on2, os1 ++ os2, bx n t c :: Bs2, ⟨hr, M1.le.trans M2.le, M2.rs, M1.ext.trans M2.ext, by rw [M2.dy, M1.dy]; simp, by rw [M2.ow, M1.ow]; simp, fun b i hb => M2.bd _ _ (M1.bd _ _ hb)⟩, by simp [E1, E2], ⟨dn1, dn2, os1, os2, n, c, Bs2, rfl, rfl, ?_, rfl, ?_, P2⟩, ⟨m.s, t, v, n, c, Bs2, M1.ext.trans M2.ext, hl, hS.ver _ (lookA_mem hl), hr _ _ g1, rfl, g3, B2⟩, fun k x hx => ?_, by simp [N2]⟩
       ·unfold bet
        rw [M2.bd _ _ (M1.bd _ _ hid)]
        simp only [hr _ _ g1]
       ·exact PR_mono (bet_mono M2.rho M2.bd) M2.le (fun _ _ _ _ _ _ _ ho => OwS_mono M2.rho M2.ext (fun x hx => by rw [M2.ow]; exact List.mem_append_right _ hx) ho) _ _ _ _ _ P1
       ·cases k with
        | zero => simp only [List.getElem?_cons_zero, Option.some.injEq] at hx; subst hx; exact M2.bd _ _ (M1.bd _ _ hid)
        | succ k => rw [show i + (k + 1) = i + 1 + k by omega]; exact K2 k x (by simpa using hx)
      ·cases h
     ·cases h
   ·cases h
  ·cases h
theorem delB_perm {id : Nat} {x : Nat × SB T} : ∀ {L : List (Nat × Nat × SB T)}, lookA L id = some x → L.Perm ((id, x) :: delB id L)
 | [], h => by cases h
 | e :: L, h => by
  obtain ⟨j, d⟩ := e
  simp only [lookA] at h
  unfold delB
  cases hb : Nat.beq j id with
  | true =>
   rw [hb] at h
   simp only [cond_true, Option.some.injEq] at h
   rw [← Nat.eq_of_beq_eq_true hb, h]
   exact .refl _
  | false =>
   rw [hb] at h
   exact (List.Perm.cons _ (delB_perm h)).trans (List.Perm.swap _ _ _)
/-- what is taken out of a list -/
theorem takeB_ok : ∀ (ow : List (Nat × Nat)) (L L1 : List (Nat × Nat × SB T)) (Ls : List Blk), takeB ow L = some L1 → RLs ρ D L Ls → (L.map (·.1)).Nodup →
  ∃ Qs Ls1, Ls.Perm (Qs ++ Ls1) ∧ RLs ρ D L1 Ls1 ∧ L1.Sublist L ∧ Qs.length = ow.length ∧ ∀ (k : Nat) (x : Nat × Nat), ow[k]? = some x → ∃ b q, lookA L x.1 = some (x.2, b) ∧ Qs[k]? = some q ∧ RBk ρ D x.1 b q
 | [], L, L1, Ls, h, hL, _ => by
  simp only [takeB, Option.some.injEq] at h
  subst h
  exact ⟨[], Ls, .refl _, hL, List.Sublist.refl _, rfl, fun k x hx => by simp at hx⟩
 | (i, ver) :: ow, L, L1, Ls, h, hL, hn => by
  simp only [takeB] at h
  split at h
  ·rename_i ver' b hl
   cases hv : Nat.beq ver ver' with
   | false => rw [hv] at h; cases h
   | true =>
    rw [hv] at h
    obtain rfl := Nat.eq_of_beq_eq_true hv
    simp only [cond_true] at h
    obtain ⟨X, q, Y, rfl, h1, h2, _⟩ := RLs_at hL hl
    obtain ⟨Qs, Ls1, g1, g2, g3, g4, g5⟩ := takeB_ok ow _ L1 _ h h2 (hn.sublist (delB_sub.map _))
    refine ⟨q :: Qs, Ls1, List.perm_middle.trans (List.Perm.cons q g1), g2, g3.trans delB_sub, by simp [g4], fun k x hx => ?_⟩
    cases k with
    | zero => simp only [List.getElem?_cons_zero, Option.some.injEq] at hx; subst hx; exact ⟨b, q, hl, rfl, h1⟩
    | succ k =>
     obtain ⟨b', q', k1, k2, k3⟩ := g5 k x (by simpa using hx)
     exact ⟨b', q', (lookA_del _ hn k1).2, by simpa using k2, k3⟩
  ·cases h
theorem pickN_ok : ∀ (bw : List (Nat × Nat)) (L es L1 : List (Nat × Nat × SB T)) (Ls : List Blk), pickN bw L = some (es, L1) → RLs ρ D L Ls → (L.map (·.1)).Nodup →
  ∃ Qs Ls1, Ls.Perm (Qs ++ Ls1) ∧ RLs ρ D L1 Ls1 ∧ L1.Sublist L ∧ RLs ρ D es Qs ∧ es.map (fun e => (e.1, e.2.1)) = bw ∧ L.Perm (es ++ L1)
 | [], L, es, L1, Ls, h, hL, _ => by
  simp only [pickN, Option.some.injEq, Prod.mk.injEq] at h
  obtain ⟨rfl, rfl⟩ := h
  exact ⟨[], Ls, .refl _, hL, List.Sublist.refl _, rfl, rfl, .refl _⟩
 | (i, ver) :: bw, L, es, L1, Ls, h, hL, hn => by
  simp only [pickN] at h
  split at h
  ·rename_i ver' b hl
   cases hv : Nat.beq ver ver' with
   | false => rw [hv] at h; cases h
   | true =>
    rw [hv] at h
    obtain rfl := Nat.eq_of_beq_eq_true hv
    simp only [cond_true] at h
    split at h
    ·rename_i es' L' hp
     simp only [Option.some.injEq, Prod.mk.injEq] at h
     obtain ⟨rfl, rfl⟩ := h
     obtain ⟨X, q, Y, rfl, h1, h2, _⟩ := RLs_at hL hl
     obtain ⟨Qs, Ls1, g1, g2, g3, g4, g5, g6⟩ := pickN_ok bw _ es' L' _ hp h2 (hn.sublist (delB_sub.map _))
     refine ⟨q :: Qs, Ls1, List.perm_middle.trans (List.Perm.cons q g1), g2, g3.trans delB_sub, ⟨q, Qs, rfl, h1, g4⟩, by simp [g5], ?_⟩
     exact (delB_perm hl).trans (List.Perm.cons _ g6)
    ·cases h
  ·cases h
/-! ### contracts -/
def OwQ (Qs : List Blk) (D : Snap) : OwT T := fun o t e f xs A cap => ∃ q, Qs[o]? = some q ∧ OwnX f (kdT T t) e D A cap xs q
/-- what a call of a function comes to -/
def lstP : Pt → Bool
 | .nl => true
 | .cs _ l => lstP l
 | _ => false
/-- what variables of packages hold, for good -/
def GlO (G : List (Nat × Dy T)) (D : Snap) : Prop := ∀ g d, lookA G g = some d → Cell (kdT T d.t) D g 0 d.x
def Valid (P : Program) (G : List (Nat × Dy T)) (sp : FSp T) : Prop := ∀ (g w0 : World) (D : Snap) (β : Nat → Option Nat) (p : TU T.ty sp.pt) (dA dB : List (Dy T)) (oA oB : List (Nat × Pl)) (vals : List Value) (Bs Qs : List Blk) (r : TU T.ty sp.rt),
 GlO G D → ofU sp.pt p = dA ++ dB → PR β D (OwQ Qs D) sp.args true dA oA vals → PRB β D (OwQ Qs D) sp.blks 0 dB oB Bs → (oA ++ oB).map (·.1) = List.range Qs.length → St g w0 D (Bs ++ Qs) → sp.fn p = some r →
 CallsIn (Fw none) 0 P sp.fid vals.toArray w0 fun e w' => ∃ v, e = .returned v ∧ ∃ (D' : Snap) (β' : Nat → Option Nat) (Bs' Ns Qs' : List Blk) (dR dO dN : List (Dy T)) (oR oO oN : List (Nat × Pl)) (vs : List Value),
  (∀ b n, b < sp.blks.length → β b = some n → β' b = some n) ∧ ofU sp.rt r = dR ++ (dO ++ dN) ∧ PR β' D' (OwQ Qs' D') sp.res true dR oR vs ∧ v = retV vs ∧ PRO β' D' (OwQ Qs' D') sp.blks sp.out 0 dO oO Bs Bs' ∧ PRB β' D' (OwQ Qs' D') sp.new sp.blks.length dN oN Ns ∧
  (oR ++ (oO ++ oN)).map (·.1) = List.range Qs'.length ∧ Stp g w0 D (Bs ++ Qs) w' D' (Bs' ++ (Ns ++ Qs'))
structure RvOk (P : Program) (rv : RvSp T) : Prop where
 v : ∀ (g w0 : World) (D : Snap) (A : Option Addr) (cap : Nat) (xs ys : List (den T.ty rv.t)) (q : Blk), St g w0 D [q] → OwnD (kdT T rv.t) rv.e D A cap xs q → rv.fn xs = some ys →
  CallsIn (Fw none) 0 P rv.fid #[.slice A xs.length cap] w0 fun e w' => ∃ v, e = .returned v ∧ ∃ (D1 : Snap) (q3 : Blk), v = .tuple #[] ∧ Stp g w0 D [q] w' D1 [q3] ∧ OwnD (kdT T rv.t) rv.e D1 A cap ys q3
 fn : (P.funcs[rv.fid]?).map (fun F => (F.name == "runtime.NumGoroutine", F.body.isNone)) = some (false, false)
 len : ∀ xs ys, rv.fn xs = some ys → ys.length = xs.length
theorem keepL_sub {α : Type} : ∀ (bs : List Bool) (l : List α), (keepL bs l).Sublist l
 | [], l => by unfold keepL; exact List.nil_sublist _
 | true :: _, [] => List.Sublist.refl _
 | false :: _, [] => List.Sublist.refl _
 | true :: bs, x :: l => (keepL_sub bs l).cons_cons x
 | false :: bs, x :: l => (keepL_sub bs l).cons x
theorem RLs_keep {ρ : Rho} {D : Snap} : ∀ (bs : List Bool) {L : List (Nat × Nat × SB T)} {Ls : List Blk}, RLs ρ D L Ls → RLs ρ D (keepL bs L) (keepL bs Ls)
 | [], _, _, _ => by unfold keepL; rfl
 | b :: _, [], _, h => by cases h; cases b <;> rfl
 | true :: bs, _ :: _, _, ⟨q, Ls', h1, h2, h3⟩ => by subst h1; exact ⟨q, _, rfl, h2, RLs_keep bs h3⟩
 | false :: bs, _ :: _, _, ⟨q, Ls', h1, h2, h3⟩ => by subst h1; exact RLs_keep bs h3
/-- a call that panics: what it was given is given up, but for what is marked -/
def PanP (P : Program) (G : List (Nat × Dy T)) (sp : FSp T) (x : TypeId × Bool) : Prop := ∀ (g w0 : World) (D : Snap) (β : Nat → Option Nat) (p : TU T.ty sp.pt) (dA dB : List (Dy T)) (oA oB : List (Nat × Pl)) (vals : List Value) (Bs Qs : List Blk) (e : Int),
 GlO G D → ofU sp.pt p = dA ++ dB → PR β D (OwQ Qs D) sp.args true dA oA vals → PRB β D (OwQ Qs D) sp.blks 0 dB oB Bs → (oA ++ oB).map (·.1) = List.range Qs.length → St g w0 D (Bs ++ Qs) → sp.fs p = some (.inl e) →
 CallsIn (Fw none) 0 P sp.fid vals.toArray w0 fun en w' => en = .panicked [{ v := pvV x e, recovered := false }] ∧ ∃ D', Stp g w0 D (Bs ++ Qs) w' D' (keepL sp.pk Bs)
structure VOk (P : Program) (G : List (Nat × Dy T)) (sp : FSp T) : Prop where
 v : Valid P G sp
 fn : (P.funcs[sp.fid]?).map (fun F => (F.name == "runtime.NumGoroutine", F.body.isNone)) = some (false, false)
 l : lstP sp.res = true
 fs : ∀ x, sp.pv = some x → ∀ p r, sp.fs p = some (.inr r) → sp.fn p = some r
 pn : ∀ x, sp.pv = some x → PanP P G sp x
end
end Go.Sep
