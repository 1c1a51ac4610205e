/-
 Symbolic execution: a function's start and its results.
-/
import Derived.Test.YtomndohdnfebgaaGreatDoorSxP
namespace Go.Sep
section
variable {T : Tb} {C : Cx T} {ct : Ct} {ρ : Rho} {D : Snap} {Lv R : List Blk} {s : SS T} {a : Act} {w : World}
/-! ### results -/
theorem resL_ok (hT : TbOk T) (h : RSx ct ρ D Lv R s a w) : ∀ (rs : List ResultVar) (l : SV T), resL C.P s rs = some l → ∃ vs, Sem.run C.P (rs.mapM (resOne a)) w = .ok vs w ∧ RX ρ D l true vs
 | [], l, hl => by
  simp only [resL, Option.some.injEq] at hl
  subst hl
  exact ⟨[], rfl, rfl⟩
 | .tmp t :: rs, l, hl => by
  simp only [resL] at hl
  split at hl
  ·rename_i v l' hv hl'
   simp only [Option.some.injEq] at hl
   subst hl
   obtain ⟨u, h1, h2⟩ := h.e t v hv
   obtain ⟨vs, h3, h4⟩ := resL_ok hT h rs l' hl'
   exact ⟨u :: vs, by simp [List.mapM_cons, resOne, h1, h3], u, vs, rfl, h2, h4⟩
  ·cases hl
 | .cell p t :: rs, l, hl => by
  simp only [resL] at hl
  split at hl
  ·rename_i pv l' hp hl'
   split at hl
   ·rename_i v hv
    simp only [Option.some.injEq] at hl
    subst hl
    obtain ⟨u, h1, h2⟩ := h.e p pv hp
    obtain ⟨b, off, z, rfl, h5, h6⟩ := loadS_ok hT h hv h2
    obtain ⟨vs, h3, h4⟩ := resL_ok hT h rs l' hl'
    exact ⟨z :: vs, by simp [List.mapM_cons, resOne, h1, asAddr, h5, h3], z, vs, rfl, h6, h4⟩
   ·cases hl
  ·cases hl
theorem PRO_mono {β β' : Nat → Option Nat} {D D' : Snap} {O O' : OwT T} (hb : ∀ b n, β b = some n → β' b = some n) (hd : D.le D') (ho : ∀ o t e f xs A cap, O o t e f xs A cap → O' o t e f xs A cap) :
  ∀ {bs : List (TypeId × Pt)} {ps : List (Option Pt)} {i : Nat} {ds : List (Dy T)} {os : List (Nat × Pl)} {B B' : List Blk}, PRO β D O bs ps i ds os B B' → PRO β' D' O' bs ps i ds os B B'
 | [], [], _, _, _, _, _, h => h
 | _ :: _, none :: _, _, _, _, _, _, ⟨q, B1, B1', e1, e2, h⟩ => ⟨q, B1, B1', e1, e2, PRO_mono hb hd ho h⟩
 | _ :: _, some _ :: _, _, _, _, _, _, ⟨d1, d2, o1, o2, n, c, q, B1, B1', e1, e2, h1, e3, e4, h2, h3⟩ => ⟨d1, d2, o1, o2, n, c, q, B1, B1', e1, e2, hb _ _ h1, e3, e4, PR_mono hb hd ho _ _ _ _ _ h2, PRO_mono hb hd ho h3⟩
 | [], _ :: _, _, _, _, _, _, h => h.elim
 | _ :: _, [], _, _, _, _, _, h => h.elim
theorem PRO_ren {β : Nat → Option Nat} {D : Snap} {O O' : OwT T} : ∀ {bs : List (TypeId × Pt)} {ps : List (Option Pt)} {i : Nat} {ds : List (Dy T)} {os os' : List (Nat × Pl)} {B B' : List Blk}, PRO β D O bs ps i ds os B B' → Ren O O' os os' → PRO β D O' bs ps i ds os' B B'
 | [], [], _, _, _, _, _, _, ⟨h1, h2, h3, h4⟩, hr => by subst h2; exact ⟨h1, hr, h3, h4⟩
 | _ :: _, none :: _, _, _, _, _, _, _, ⟨q, B1, B1', e1, e2, h⟩, hr => ⟨q, B1, B1', e1, e2, PRO_ren h hr⟩
 | _ :: _, some _ :: _, _, _, _, _, _, _, ⟨d1, d2, o1, o2, n, c, q, B1, B1', e1, e2, h1, e3, e4, h2, h3⟩, hr => by
  subst e2
  obtain ⟨y1, y2, rfl, r1, r2⟩ := Ren_app hr
  exact ⟨d1, d2, y1, y2, n, c, q, B1, B1', e1, rfl, h1, e3, e4, PR_ren _ _ _ _ _ _ h2 r1, PRO_ren h3 r2⟩
 | [], _ :: _, _, _, _, _, _, _, h, _ => h.elim
 | _ :: _, [], _, _, _, _, _, _, h, _ => h.elim
theorem BwS_app {ρ : Rho} {w : World} {s : SS T} : ∀ {b1 b2 : List (Nat × Nat)} {B1 B2 : List Blk}, BwS ρ w s b1 B1 → BwS ρ w s b2 B2 → BwS ρ w s (b1 ++ b2) (B1 ++ B2)
 | [], _, _, _, h, h2 => by have h : _ = _ := h; subst h; exact h2
 | _ :: _, _, _, _, ⟨s1, t, v, n, c, Bs', h1, h2, h3, h4, h5, h6, h7⟩, h8 => by
  subst h5
  exact ⟨s1, t, v, n, c, _, h1, h2, h3, h4, rfl, h6, BwS_app h7 h8⟩
theorem matO_ok (hT : TbOk T) {L0 : List (Nat × Nat × SB T)} : ∀ (bs : List (TypeId × Pt)) (os : List (Option Pt)) (i : Nat) (m m' : Mt T) (bo : List (Nat × Nat)) (ρ : Rho) (D : Snap) (Lv Bs : List Blk), matO bs os i L0 m = some (m', bo) → RSx ct ρ D Lv R m.s a w →
  Bs.length = bs.length → (∀ k tp, bs[k]? = some tp → ∃ n c, Bs[k]? = some (bx n tp.1 c) ∧ ct.ini (i + k) = some (n, tp.1, c)) → (∀ k, k < bs.length → ∃ b, lookA L0 (i + k) = some (i + k, b)) → (∀ k, k < bs.length → lookA m.bd (i + k) = some (i + k)) →
  ∃ ρ' D' Lv' dn on os' Bs', MatR ct ρ D R m m' a w ρ' D' Lv' dn on ∧ os'.map (·.1) = on.map (·.1) ∧ PRO (bet ρ' m'.bd) D' (OwS ρ' m'.s m'.ow) bs os i dn os' Bs Bs' ∧ BwS ρ' w m'.s bo Bs'
 | [], [], i, m, m', bo, ρ, D, Lv, Bs, h, hS, hB, hi, hL, hb => by
  simp only [matO, Option.some.injEq, Prod.mk.injEq] at h
  obtain ⟨rfl, rfl⟩ := h
  have hB : Bs = [] := List.eq_nil_of_length_eq_zero hB
  subst hB
  exact ⟨ρ, D, Lv, [], [], [], [], ⟨Rho.le.refl _, Snap.le.refl _, hS, Ext.refl _, rfl, rfl, fun _ _ h => h⟩, rfl, ⟨rfl, rfl, rfl, rfl⟩, rfl⟩
 | (t, p0) :: bs, some p :: os, i, m, m', bo, ρ, D, Lv, Bs, h, hS, hB, hi, hL, hb => by
  simp only [matO] at h
  split at h
  ·rename_i ver t' v hl
   cases ht : Nat.beq t t' with
   | false => rw [ht] at h; cases h
   | true =>
    rw [ht] at h
    obtain rfl := Nat.eq_of_beq_eq_true ht
    simp only [cond_true] at h
    split at h
    ·rename_i m1 hm1
     split at h
     ·rename_i m2 bw2 hm2
      simp only [Option.some.injEq, Prod.mk.injEq] at h
      obtain ⟨rfl, rfl⟩ := h
      cases Bs with
      | nil => simp at hB
      | cons q Bs =>
      obtain ⟨X, Y, n, c, e, g1, g2, g3, _⟩ := hS.var hl
      obtain ⟨ρ1, D1, Lv1, dn1, on1, os1, M1, E1, P1⟩ := mat_ok hT p v m m1 ρ D Lv false c hm1 hS g2
      obtain ⟨ρ2, D2, Lv2, dn2, on2, os2, Bs2, M2, E2, P2, B2⟩ := matO_ok hT bs os (i + 1) m1 m2 bw2 ρ1 D1 Lv1 Bs hm2 M1.rs (by simpa using hB) (fun k tp hk => by
       obtain ⟨n, c, h1, h2⟩ := hi (k + 1) tp (by simpa using hk)
       exact ⟨n, c, by simpa using h1, by rw [show i + 1 + k = i + (k + 1) by omega]; exact h2⟩) (fun k hk => by
       rw [show i + 1 + k = i + (k + 1) by omega]; exact hL (k + 1) (by simpa using hk)) (fun k hk => by
       rw [show i + 1 + k = i + (k + 1) by omega]; exact M1.bd _ _ (hb (k + 1) (by simpa using hk)))
      have hr := M1.rho.trans M2.rho
      have hid := hb 0 (by simp)
      rw [Nat.add_zero] at hid
      refine ⟨ρ2, D2, Lv2, dn1 ++ dn2, on1 ++ on2, os1 ++ os2, bx n t c :: Bs2, ⟨hr, M1.le.trans M2.le, M2.rs, M1.ext.trans M2.ext, by rw [M2.dy, M1.dy]; simp, by rw [M2.ow, M1.ow]; simp, fun b i hb => M2.bd _ _ (M1.bd _ _ hb)⟩, by simp [E1, E2], ⟨dn1, dn2, os1, os2, n, c, q, Bs, Bs2, rfl, rfl, ?_, rfl, rfl, ?_, P2⟩, ⟨m.s, t, v, n, c, Bs2, M1.ext.trans M2.ext, hl, hS.ver _ (lookA_mem hl), hr _ _ g1, rfl, g3, B2⟩⟩
      ·unfold bet
       rw [M2.bd _ _ (M1.bd _ _ hid)]
       simp only [hr _ _ g1]
      ·exact PR_mono (bet_mono M2.rho M2.bd) M2.le (fun _ _ _ _ _ _ _ ho => OwS_mono M2.rho M2.ext (fun x hx => by rw [M2.ow]; exact List.mem_append_right _ hx) ho) _ _ _ _ _ P1
     ·cases h
    ·cases h
  ·cases h
 | (t, p0) :: bs, none :: os, i, m, m', bo, ρ, D, Lv, Bs, h, hS, hB, hi, hL, hb => by
  simp only [matO] at h
  split at h
  ·rename_i ver sb ver' sb' hl hl'
   cases ht : Nat.beq ver ver' with
   | false => rw [ht] at h; cases h
   | true =>
    rw [ht] at h
    obtain rfl := Nat.eq_of_beq_eq_true ht
    simp only [cond_true] at h
    split at h
    ·rename_i m2 bw2 hm2
     simp only [Option.some.injEq, Prod.mk.injEq] at h
     obtain ⟨rfl, rfl⟩ := h
     cases Bs with
     | nil => simp at hB
     | cons q Bs =>
     obtain ⟨ρ2, D2, Lv2, dn2, on2, os2, Bs2, M2, E2, P2, B2⟩ := matO_ok hT bs os (i + 1) m m2 bw2 ρ D Lv Bs hm2 hS (by simpa using hB) (fun k tp hk => by
      obtain ⟨n, c, h1, h2⟩ := hi (k + 1) tp (by simpa using hk)
      exact ⟨n, c, by simpa using h1, by rw [show i + 1 + k = i + (k + 1) by omega]; exact h2⟩) (fun k hk => by
      rw [show i + 1 + k = i + (k + 1) by omega]; exact hL (k + 1) (by simpa using hk)) (fun k hk => by
      rw [show i + 1 + k = i + (k + 1) by omega]; exact hb (k + 1) (by simpa using hk))
     obtain ⟨n, c, h1, h2⟩ := hi 0 (t, p0) rfl
     simp only [List.getElem?_cons_zero, Option.some.injEq] at h1
     subst h1
     obtain ⟨b0, h3⟩ := hL 0 (by simp)
     rw [Nat.add_zero] at h2 h3
     rw [hl'] at h3
     simp only [Option.some.injEq, Prod.mk.injEq] at h3
     obtain ⟨rfl, _⟩ := h3
     obtain ⟨k1, k2⟩ := hS.ini _ _ _ _ h2
     have k3 := k2 _ hl
     cases sb with
     | own t' e' xs' f' =>
      obtain ⟨q, ⟨A, cap, k4, _⟩, _⟩ := hS.blk hl
      rw [k1] at k4; cases k4
     | lnt t' xs' =>
      obtain ⟨q, ⟨A, cap, k4, _⟩, _⟩ := hS.blk hl
      rw [k1] at k4; cases k4
     | var t' v =>
      obtain ⟨X, Y, n', c', e, g1, g2, g3, _⟩ := hS.var hl
      rw [k1] at g1
      cases g1
      rw [k3] at g3
      simp only [Option.some.injEq, Obj.cells.injEq, and_true] at g3
      obtain ⟨g4, rfl⟩ := g3
      have g4 : c = c' := List.toArray_inj g4
      subst g4
      exact ⟨ρ2, D2, Lv2, dn2, on2, os2, bx n t c :: Bs2, M2, E2, ⟨bx n t c, Bs, Bs2, rfl, rfl, P2⟩, ⟨m.s, t, v, n, c, Bs2, M2.ext, hl, hS.ver _ (lookA_mem hl), M2.rho _ _ k1, rfl, k3, B2⟩⟩
    ·cases h
  ·cases h
 | [], _ :: _, _, _, _, _, _, _, _, _, h, _, _, _, _, _ => by simp only [matO, reduceCtorEq] at h
 | _ :: _, [], _, _, _, _, _, _, _, _, h, _, _, _, _, _ => by
  simp only [matO, reduceCtorEq] at h
/-! ### the start -/
def lenP : Pt → Nat
 | .cs _ l => lenP l + 1
 | _ => 0
theorem PR_lenP {β : Nat → Option Nat} {D : Snap} {O : OwT T} : ∀ {p : Pt} {ds : List (Dy T)} {os : List (Nat × Pl)} {c : List Value}, lstP p = true → PR β D O p true ds os c → c.length = lenP p
 | .nl, _, _, _, _, ⟨_, _, h⟩ => by subst h; rfl
 | .cs x l, _, _, _, hl, ⟨d1, d2, o1, o2, v, c2, _, _, e, _, h⟩ => by
  subst e
  simp only [List.length_cons, lenP]
  rw [PR_lenP (p := l) hl h]
 | .dt _, _, _, _, h, _ => by cases h
 | .own _ _ _, _, _, _, h, _ => by cases h
 | .agg _, _, _, _, h, _ => by cases h
 | .ptr _ _, _, _, _, h, _ => by cases h
 | .fn _ _, _, _, _, h, _ => by cases h
 | .raw _, _, _, _, h, _ => by cases h
 | .nils, _, _, _, h, _ => by cases h
 | .kb _, _, _, _, h, _ => by cases h
theorem instBk_ok {β : Nat → Option Nat} {O : OwT T} {bd : List (Nat × Nat)} : ∀ (bs : List (TypeId × Pt)) (i : Nat) (m m' : Im T) (L : List (Nat × Nat × SB T)) (ds : List (Dy T)) (os : List (Nat × Pl)) (Bs : List Blk) (rest : List (Dy T)), instBk bd bs i m = some (L, m') → m.dy = ds ++ rest → PRB β D O bs i ds os Bs → (∀ k, k < bs.length → lookA bd (i + k) = some (i + k)) →
  InsR O m m' rest os ∧ L.map (·.1) = List.range' i bs.length ∧ (∀ e ∈ L, e.2.1 = e.1) ∧ ∀ ρ' : Rho, (∀ b n i, β b = some n → lookA bd b = some i → ρ' i = some (.blk n)) → (∀ k x, os[k]? = some x → ρ' (m.nx + k) = some x.2) → RLs ρ' D L Bs
 | [], i, m, m', L, ds, os, Bs, rest, h, hm, ⟨e1, e2, e3⟩, _ => by
  subst e1 e2 e3
  simp only [instBk, Option.some.injEq, Prod.mk.injEq] at h
  obtain ⟨rfl, rfl⟩ := h
  exact ⟨⟨hm, rfl, [], rfl, rfl⟩, rfl, fun e he => (by cases he), fun _ _ _ => rfl⟩
 | (t, p) :: bs, i, m, m', L, ds, os, Bs, rest, h, hm, ⟨d1, d2, o1, o2, n, c, Bs', e1, e2, h1, e3, h2, h3⟩, hbd => by
  subst e1 e2 e3
  simp only [instBk] at h
  split at h
  ·rename_i v m1 hi
   split at h
   ·rename_i L1 m2 hn
    simp only [Option.some.injEq, Prod.mk.injEq] at h
    obtain ⟨rfl, rfl⟩ := h
    obtain ⟨_, i1, r1⟩ := inst_ok p false m m1 v d1 o1 c (d2 ++ rest) hi (by rw [hm]; simp) h2
    obtain ⟨i2, v2, l2, r2⟩ := instBk_ok bs (i + 1) m1 m2 L1 d2 o2 Bs' rest hn i1.dy h3 fun k hk => by
     rw [show i + 1 + k = i + (k + 1) by omega]; exact hbd (k + 1) (by simpa using hk)
    refine ⟨i1.trans i2, by simp [v2, List.range'_succ], fun e he => ?_, fun ρ' hb ho => ⟨_, Bs', rfl, ⟨n, c, hb _ _ _ h1 (hbd 0 (by simp)), r1 ρ' hb fun k x hx => ho k x (by rw [List.getElem?_append_left (List.getElem?_eq_some_iff.1 hx).1]; exact hx), rfl⟩, r2 ρ' hb fun k x hx => ?_⟩⟩
    ·rcases List.mem_cons.1 he with rfl | he
     ·rfl
     ·exact l2 e he
    ·rw [i1.nx, Nat.add_assoc]
     exact ho _ x (by rw [List.getElem?_append_right (Nat.le_add_right _ _), Nat.add_sub_cancel_left]; exact hx)
   ·cases h
  ·cases h
theorem lookA_rng (nb b : Nat) : lookA ((List.range nb).map fun i => (i, i)) b = if b < nb then some b else none := by
 have key : ∀ l i b, lookA ((List.range' i l).map fun i => (i, i)) b = if i ≤ b ∧ b < i + l then some b else none := by
  intro l
  induction l with
  | zero => intro i b; rw [if_neg (by omega)]; rfl
  | succ l ih =>
   intro i b
   simp only [List.range'_succ, List.map_cons, lookA]
   cases hb : Nat.beq i b with
   | true => have := Nat.eq_of_beq_eq_true hb; subst this; rw [if_pos (by omega)]; rfl
   | false =>
    have hne : i ≠ b := fun e => by subst e; simp at hb
    rw [cond_false, ih]
    by_cases h : i + 1 ≤ b ∧ b < i + 1 + l
    ·rw [if_pos h, if_pos (by omega)]
    ·rw [if_neg h, if_neg (by omega)]
 rw [List.range_eq_range', key]
 simp
def iniB (Bs : List Blk) (i : Nat) : Option (Nat × TypeId × List Value) :=
 match Bs[i]? with
 | some (some (n, (.cells c t _, _))) => some (n, t, c.toList)
 | _ => none
def frT : Frm where
 p := fun _ _ _ _ => True
 t := fun _ => False
 mono := fun _ _ => trivial
 put := fun _ _ _ _ => trivial
end
end Go.Sep
