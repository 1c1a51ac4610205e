/-
 Symbolic execution: what patterns mean; values are matched, and made.
-/
import Derived.Test.YtomndohdnfebgaaGreatDoorSxH
namespace Go.Sep
def agP : Pt → Bool
 | .dt t => agT t
 | .agg _ => true
 | .nl => true
 | .cs _ _ => true
 | .raw (.agg _) => true
 | _ => false
section
variable {T : Tb} {C : Cx T} {ct : Ct} {ρ : Rho} {D : Snap} {Lv R : List Blk} {s : SS T} {a : Act} {w : World}
/-- these cells (or values) are a pattern's, with these data and these slices; blocks by β, slices by their names -/
def PR (β : Nat → Option Nat) (D : Snap) (O : Nat → (t : Ty) → TypeId → Bool → List (den T.ty t) → Option Addr → Nat → Prop) : Pt → Bool → List (Dy T) → List (Nat × Pl) → List Value → Prop
 | .dt t, _, ds, os, c => ∃ x, ds = [⟨t, x⟩] ∧ os = [] ∧ (kdT T t).r D x c
 | .own t e f, _, ds, os, c => ∃ (xs : List (den T.ty t)) (o : Nat) (A : Option Addr) (cap : Nat), ds = [⟨.sl t, xs⟩] ∧ os = [(o, .own A cap xs.length)] ∧ c = [.slice A xs.length cap] ∧ O o t e f xs A cap
 | .agg l, _, ds, os, c => PR β D O l false ds os c
 | .nl, _, ds, os, c => ds = [] ∧ os = [] ∧ c = []
 | .cs h l, false, ds, os, c => ∃ d1 d2 o1 o2 c1 c2, ds = d1 ++ d2 ∧ os = o1 ++ o2 ∧ c = c1 ++ c2 ∧ PR β D O h false d1 o1 c1 ∧ PR β D O l false d2 o2 c2
 | .cs h l, true, ds, os, c => ∃ d1 d2 o1 o2 v c2, ds = d1 ++ d2 ∧ os = o1 ++ o2 ∧ c = v :: c2 ∧ (bif agP h then ∃ c1, PR β D O h false d1 o1 c1 ∧ v = .agg c1.toArray else PR β D O h false d1 o1 [v]) ∧ PR β D O l true d2 o2 c2
 | .ptr b off, _, ds, os, c => ds = [] ∧ os = [] ∧ ∃ n, β b = some n ∧ c = [.pointer (some ⟨n, off, none⟩)]
 | .fn f l, _, ds, os, c => ∃ vs, PR β D O l true ds os vs ∧ c = [fnV f vs]
 | .raw v, _, ds, os, c => ds = [] ∧ os = [] ∧ c = vcells v
 | .nils, _, ds, os, c => ds = [] ∧ os = [] ∧ c = [.slice none 0 0]
 | .kb b, _, ds, os, c => ds = [] ∧ os = [] ∧ c = [.bool b]
abbrev OwT (T : Tb) := Nat → (t : Ty) → TypeId → Bool → List (den T.ty t) → Option Addr → Nat → Prop
theorem PR_mono {β β' : Nat → Option Nat} {D D' : Snap} {O O' : OwT T} (hb : ∀ b n, β b = some n → β' b = some n) (hd : D.le D') (ho : ∀ o t e f xs A cap, O o t e f xs A cap → O' o t e f xs A cap) :
  ∀ (p : Pt) (md : Bool) (ds : List (Dy T)) (os : List (Nat × Pl)) (c : List Value), PR β D O p md ds os c → PR β' D' O' p md ds os c := by
 intro p
 induction p with
 | dt t => exact fun md ds os c ⟨x, h1, h2, h3⟩ => ⟨x, h1, h2, (kdT T t).mono _ _ _ _ hd h3⟩
 | own t e f => exact fun md ds os c ⟨xs, o, A, cap, h1, h2, h3, h4⟩ => ⟨xs, o, A, cap, h1, h2, h3, ho _ _ _ _ _ _ _ h4⟩
 | agg l ih => exact fun md ds os c h => ih false ds os c h
 | nl => exact fun _ _ _ _ h => h
 | cs h l ih1 ih2 =>
  intro md ds os c hc
  cases md with
  | false => obtain ⟨d1, d2, o1, o2, c1, c2, e1, e2, e3, h1, h2⟩ := hc; exact ⟨d1, d2, o1, o2, c1, c2, e1, e2, e3, ih1 _ _ _ _ h1, ih2 _ _ _ _ h2⟩
  | true =>
   obtain ⟨d1, d2, o1, o2, v, c2, e1, e2, e3, h1, h2⟩ := hc
   refine ⟨d1, d2, o1, o2, v, c2, e1, e2, e3, ?_, ih2 _ _ _ _ h2⟩
   cases ha : agP h with
   | true => rw [ha] at h1; obtain ⟨c1, h3, h4⟩ := h1; exact ⟨c1, ih1 _ _ _ _ h3, h4⟩
   | false => rw [ha] at h1; exact ih1 _ _ _ _ h1
 | ptr b off => exact fun md ds os c ⟨h1, h2, n, h3, h4⟩ => ⟨h1, h2, n, hb _ _ h3, h4⟩
 | fn f l ih => exact fun md ds os c ⟨vs, h1, h2⟩ => ⟨vs, ih _ _ _ _ h1, h2⟩
 | raw v => exact fun _ _ _ _ h => h
 | nils => exact fun _ _ _ _ h => h
 | kb b => exact fun _ _ _ _ h => h
/-- where a state's bound blocks lie -/
def bet (ρ : Rho) (bd : List (Nat × Nat)) (b : Nat) : Option Nat :=
 match lookA bd b with
 | some i => match ρ i with
  | some (.blk n) => some n
  | _ => none
 | none => none
/-- the slice o lay in a state that the state s came from -/
def OwS (ρ : Rho) (s : SS T) (ow : List (Nat × Nat)) : OwT T := fun o t e f xs A cap => ∃ (s1 : SS T) (ver : Nat) (f0 : Bool), Ext s1 s ∧ lookA s1.L o = some (ver, .own t e xs f0) ∧ ver < s1.nx ∧ (!f || f0) = true ∧ ρ o = some (.own A cap xs.length) ∧ (o, ver) ∈ ow
theorem OwS_mono {ρ ρ' : Rho} {s s' : SS T} {ow ow' : List (Nat × Nat)} (hr : ρ.le ρ') (hx : Ext s s') (hw : ∀ x, x ∈ ow → x ∈ ow') {o : Nat} {t : Ty} {e : TypeId} {f : Bool} {xs : List (den T.ty t)} {A : Option Addr} {cap : Nat} (h : OwS ρ s ow o t e f xs A cap) : OwS ρ' s' ow' o t e f xs A cap := by
 obtain ⟨s1, ver, f0, h1, h2, h3, h4, h6, h7⟩ := h
 exact ⟨s1, ver, f0, h1.trans hx, h2, h3, h4, hr _ _ h6, hw _ h7⟩
def BdLe (bd bd' : List (Nat × Nat)) : Prop := ∀ b i, lookA bd b = some i → lookA bd' b = some i
theorem bet_mono {ρ ρ' : Rho} {bd bd' : List (Nat × Nat)} (hr : ρ.le ρ') (hb : BdLe bd bd') : ∀ b n, bet ρ bd b = some n → bet ρ' bd' b = some n := by
 intro b n h
 unfold bet at h ⊢
 split at h
 ·rename_i i hi
  rw [hb _ _ hi]
  split at h
  ·rename_i m hm
   simp only [hr _ _ hm]
   exact h
  ·cases h
 ·cases h
/-- what matching leads to -/
structure MatR (ct : Ct) (ρ : Rho) (D : Snap) (R : List Blk) (m m' : Mt T) (a : Act) (w : World) (ρ' : Rho) (D' : Snap) (Lv' : List Blk) (dn : List (Dy T)) (on : List (Nat × Nat)) : Prop where
 rho : ρ.le ρ'
 le : D.le D'
 rs : RSx ct ρ' D' Lv' R m'.s a w
 ext : Ext m.s m'.s
 dy : m'.dy = dn.reverse ++ m.dy
 ow : m'.ow = on.reverse ++ m.ow
 bd : BdLe m.bd m'.bd
theorem agS_raw {b : Value} : agS (.raw b : SV T) = agP (.raw b) := by cases b <;> rfl
theorem frz_ag : ∀ {f : Nat} {s s' : SS T} {v : SV T} {t : Ty} {x : den T.ty t}, frz f s v t = some (x, s') → agS v = agT t := by
 intro f s s' v t x h
 cases f with
 | zero => cases h
 | succ f =>
  cases v with
  | dt t' x' =>
   simp only [frz] at h
   split at h
   ·rename_i hx; obtain ⟨e, _⟩ := castT_some hx; subst e; rfl
   ·cases h
  | kb b => cases t <;> simp only [frz, reduceCtorEq] at h <;> rfl
  | nils => cases t <;> simp only [frz, reduceCtorEq] at h <;> rfl
  | own o => cases t <;> simp only [frz, reduceCtorEq] at h <;> rfl
  | agg l => cases t <;> simp only [frz, reduceCtorEq] at h <;> rfl
  | _ => cases t <;> simp only [frz, reduceCtorEq] at h
theorem rawB_eq {x y : Value} (hb : rawB x y = true) : x = y := by
 unfold rawB at hb
 split at hb <;> first | rfl | cases hb
theorem mat_ag : ∀ {p : Pt} {v : SV T} {m m' : Mt T}, mat p v m = some m' → agS v = agP p := by
 intro p v m m' h
 cases p with
 | dt t =>
  simp only [mat] at h
  split at h
  ·rename_i x s1 hf; exact frz_ag hf
  ·cases h
 | agg l =>
  simp only [mat] at h
  split at h
  ·rename_i u hu; exact aggOf_ag hu
  ·cases h
 | raw x =>
  cases v <;> first | (simp only [mat, reduceCtorEq] at h; done) | skip
  rename_i y
  simp only [mat] at h
  cases hb : rawB x y with
  | false => rw [hb] at h; cases h
  | true => rw [rawB_eq hb]; exact agS_raw
 | _ => cases v <;> first | (simp only [mat, reduceCtorEq] at h; done) | rfl
theorem mat_ok (hT : TbOk T) : ∀ (p : Pt) (v : SV T) (m m' : Mt T) (ρ : Rho) (D : Snap) (Lv : List Blk) (md : Bool) (c : List Value), mat p v m = some m' → RSx ct ρ D Lv R m.s a w → RX ρ D v md c →
  ∃ ρ' D' Lv' dn on os, MatR ct ρ D R m m' a w ρ' D' Lv' dn on ∧ os.map (·.1) = on.map (·.1) ∧ PR (bet ρ' m'.bd) D' (OwS ρ' m'.s m'.ow) p md dn os c := by
 intro p
 induction p with
 | dt t =>
  intro v m m' ρ D Lv md c h hS hc
  simp only [mat] at h
  split at h
  ·rename_i x s1 hf
   simp only [Option.some.injEq] at h
   subst h
   have hc' : RX ρ D v false c := by
    cases v <;> first | exact hc | skip
    rename_i u l
    have := frz_ag hf
    simp [frz] at hf
   obtain ⟨D', Lv', hd, h1, h2, h3⟩ := frz_ok hT 60 _ _ _ _ _ D Lv c hf hS hc'
   exact ⟨ρ, D', Lv', [⟨t, x⟩], [], [], ⟨Rho.le.refl _, hd, h1, h3, rfl, rfl, fun _ _ h => h⟩, rfl, x, rfl, rfl, h2⟩
  ·cases h
 | own t e f =>
  intro v m m' ρ D Lv md c h hS hc
  cases v <;> simp only [mat, reduceCtorEq] at h
  ·simp only [Option.some.injEq] at h
   subst h
   have hc : c = [.slice none 0 0] := hc
   subst hc
   have h1 := hS.nw (p := .own none 0 0) (b := .own t e [] true) hS.st.nils (Snap.le.refl _) ⟨none, 0, Rho.ins_at _ _ _, OwnD.nil (f := true) _ _ _⟩
   refine ⟨_, D, _, [⟨.sl t, []⟩], [(m.s.nx, m.s.nx)], [(m.s.nx, .own none 0 0)], ⟨Rho.le_ins hS.fresh, Snap.le.refl _, h1, Ext.nw _ _, rfl, rfl, fun _ _ h => h⟩, rfl, [], m.s.nx, none, 0, rfl, rfl, rfl, m.s.nw (.own t e [] true), m.s.nx, true, Ext.refl _, ?_, ?_, ?_, Rho.ins_at _ _ _, List.mem_cons_self⟩
   ·simp [SS.nw, lookA]
   ·exact Nat.lt_succ_self _
   ·cases f <;> rfl
  ·rename_i o
   split at h
   ·rename_i ver t' e' xs f' hl
    cases hb : (Ty.beq t' t && (Nat.beq e' e && (!f || f'))) with
    | false => rw [hb] at h; cases h
    | true =>
     rw [hb] at h
     simp only [cond_true, Option.some.injEq] at h
     subst h
     rw [Bool.and_eq_true, Bool.and_eq_true] at hb
     obtain rfl := Ty.eq_of_beq hb.1
     obtain rfl := Nat.eq_of_beq_eq_true hb.2.1
     obtain ⟨A, cap, len, h1, h2⟩ := hc
     obtain ⟨q, ⟨A', cap', h3, _⟩, _⟩ := hS.blk hl
     rw [h1] at h3
     cases h3
     exact ⟨ρ, D, Lv, [⟨.sl t', xs⟩], [(o, ver)], [(o, .own A cap xs.length)], ⟨Rho.le.refl _, Snap.le.refl _, hS, Ext.refl _, rfl, rfl, fun _ _ h => h⟩, rfl, xs, o, A, cap, rfl, rfl, h2, m.s, ver, f', Ext.refl _, hl, hS.ver _ (lookA_mem hl), hb.2.2, h1, List.mem_cons_self⟩
   ·cases h
 | agg l ih =>
  intro v m m' ρ D Lv md c h hS hc
  simp only [mat] at h
  split at h
  ·rename_i u hu
   have hc' : RX ρ D v false c := by
    cases v <;> first | exact hc | (cases hu; done)
   exact ih u m m' ρ D Lv false c h hS (aggOf_RX hT hu hc')
  ·cases h
 | nl =>
  intro v m m' ρ D Lv md c h hS hc
  cases v <;> simp only [mat, reduceCtorEq, Option.some.injEq] at h
  subst h
  exact ⟨ρ, D, Lv, [], [], [], ⟨Rho.le.refl _, Snap.le.refl _, hS, Ext.refl _, rfl, rfl, fun _ _ h => h⟩, rfl, rfl, rfl, hc⟩
 | cs p q ih1 ih2 =>
  intro v m m' ρ D Lv md c h hS hc
  cases v <;> simp only [mat, reduceCtorEq] at h
  rename_i u l
  split at h
  ·rename_i m1 hm1
   have hag := mat_ag hm1
   cases md with
   | false =>
    obtain ⟨c1, c2, rfl, r1, r2⟩ := hc
    obtain ⟨ρ1, D1, Lv1, dn1, on1, os1, M1, E1, P1⟩ := ih1 u m m1 ρ D Lv false c1 hm1 hS r1
    obtain ⟨ρ2, D2, Lv2, dn2, on2, os2, M2, E2, P2⟩ := ih2 l m1 m' ρ1 D1 Lv1 false c2 h M1.rs (RX_mono M1.rho M1.le _ _ _ r2)
    refine ⟨ρ2, D2, Lv2, dn1 ++ dn2, on1 ++ on2, os1 ++ os2, ⟨M1.rho.trans M2.rho, M1.le.trans M2.le, M2.rs, M1.ext.trans M2.ext, by rw [M2.dy, M1.dy]; simp, by rw [M2.ow, M1.ow]; simp, fun b i hb => M2.bd _ _ (M1.bd _ _ hb)⟩, by simp [E1, E2], dn1, dn2, os1, os2, c1, c2, rfl, rfl, rfl, ?_, P2⟩
    exact PR_mono (bet_mono M2.rho M2.bd) M2.le (fun _ _ _ _ _ _ _ ho => OwS_mono M2.rho M2.ext (fun x hx => by rw [M2.ow]; exact List.mem_append_right _ hx) ho) _ _ _ _ _ P1
   | true =>
    obtain ⟨vv, c2, rfl, r1, r2⟩ := hc
    have key : ∀ c1, RX ρ D u false c1 → ∃ ρ' D' Lv' dn on os, MatR ct ρ D R m m' a w ρ' D' Lv' dn on ∧ os.map (·.1) = on.map (·.1) ∧ ∃ d1 d2 o1 o2, dn = d1 ++ d2 ∧ os = o1 ++ o2 ∧ PR (bet ρ' m'.bd) D' (OwS ρ' m'.s m'.ow) p false d1 o1 c1 ∧ PR (bet ρ' m'.bd) D' (OwS ρ' m'.s m'.ow) q true d2 o2 c2 := by
     intro c1 r1
     obtain ⟨ρ1, D1, Lv1, dn1, on1, os1, M1, E1, P1⟩ := ih1 u m m1 ρ D Lv false c1 hm1 hS r1
     obtain ⟨ρ2, D2, Lv2, dn2, on2, os2, M2, E2, P2⟩ := ih2 l m1 m' ρ1 D1 Lv1 true c2 h M1.rs (RX_mono M1.rho M1.le _ _ _ r2)
     refine ⟨ρ2, D2, Lv2, dn1 ++ dn2, on1 ++ on2, os1 ++ os2, ⟨M1.rho.trans M2.rho, M1.le.trans M2.le, M2.rs, M1.ext.trans M2.ext, by rw [M2.dy, M1.dy]; simp, by rw [M2.ow, M1.ow]; simp, fun b i hb => M2.bd _ _ (M1.bd _ _ hb)⟩, by simp [E1, E2], dn1, dn2, os1, os2, rfl, rfl, ?_, P2⟩
     exact PR_mono (bet_mono M2.rho M2.bd) M2.le (fun _ _ _ _ _ _ _ ho => OwS_mono M2.rho M2.ext (fun x hx => by rw [M2.ow]; exact List.mem_append_right _ hx) ho) _ _ _ _ _ P1
    cases ha : agS u with
    | true =>
     rw [ha] at r1
     obtain ⟨c1, r1, rfl⟩ := r1
     obtain ⟨ρ', D', Lv', dn, on, os, M, E1, d1, d2, o1, o2, e1, e2, P1, P2⟩ := key c1 r1
     refine ⟨ρ', D', Lv', dn, on, os, M, E1, d1, d2, o1, o2, _, c2, e1, e2, rfl, ?_, P2⟩
     rw [← hag, ha]
     exact ⟨c1, P1, rfl⟩
    | false =>
     rw [ha] at r1
     obtain ⟨ρ', D', Lv', dn, on, os, M, E1, d1, d2, o1, o2, e1, e2, P1, P2⟩ := key [vv] r1
     refine ⟨ρ', D', Lv', dn, on, os, M, E1, d1, d2, o1, o2, _, c2, e1, e2, rfl, ?_, P2⟩
     rw [← hag, ha]
     exact P1
  ·cases h
 | ptr b off =>
  intro v m m' ρ D Lv md c h hS hc
  cases v <;> simp only [mat, reduceCtorEq] at h
  rename_i i off'
  cases hb : Nat.beq off off' with
  | false => rw [hb] at h; cases h
  | true =>
   rw [hb] at h
   obtain rfl := Nat.eq_of_beq_eq_true hb
   simp only [cond_true] at h
   obtain ⟨n, h1, h2⟩ := hc
   split at h
   ·rename_i j hj
    cases hij : Nat.beq i j with
    | false => rw [hij] at h; cases h
    | true =>
     rw [hij] at h
     obtain rfl := Nat.eq_of_beq_eq_true hij
     simp only [cond_true, Option.some.injEq] at h
     subst h
     exact ⟨ρ, D, Lv, [], [], [], ⟨Rho.le.refl _, Snap.le.refl _, hS, Ext.refl _, rfl, rfl, fun _ _ h => h⟩, rfl, rfl, rfl, n, by simp [bet, hj, h1], h2⟩
   ·rename_i hj
    simp only [Option.some.injEq] at h
    subst h
    refine ⟨ρ, D, Lv, [], [], [], ⟨Rho.le.refl _, Snap.le.refl _, hS, Ext.refl _, rfl, rfl, fun b' i' hb' => ?_⟩, rfl, rfl, rfl, n, by simp [bet, lookA, h1], h2⟩
    simp only [lookA]
    cases hbb : Nat.beq b b' with
    | true => have := Nat.eq_of_beq_eq_true hbb; subst this; rw [hj] at hb'; cases hb'
    | false => exact hb'
 | fn f l ih =>
  intro v m m' ρ D Lv md c h hS hc
  cases v <;> simp only [mat, reduceCtorEq] at h
  rename_i f' u
  cases hb : Nat.beq f f' with
  | false => rw [hb] at h; cases h
  | true =>
   rw [hb] at h
   obtain rfl := Nat.eq_of_beq_eq_true hb
   simp only [cond_true] at h
   obtain ⟨vs, h1, h2⟩ := hc
   obtain ⟨ρ1, D1, Lv1, dn1, on1, os1, M1, E1, P1⟩ := ih u m m' ρ D Lv true vs h hS h1
   exact ⟨ρ1, D1, Lv1, dn1, on1, os1, M1, E1, vs, P1, h2⟩
 | raw x =>
  intro v m m' ρ D Lv md c h hS hc
  cases v <;> simp only [mat, reduceCtorEq] at h
  rename_i y
  cases hb : rawB x y with
  | false => rw [hb] at h; cases h
  | true =>
   rw [hb] at h
   simp only [cond_true, Option.some.injEq] at h
   subst h
   have e : x = y := by
    unfold rawB at hb
    split at hb <;> first | rfl | cases hb
   subst e
   exact ⟨ρ, D, Lv, [], [], [], ⟨Rho.le.refl _, Snap.le.refl _, hS, Ext.refl _, rfl, rfl, fun _ _ h => h⟩, rfl, rfl, rfl, hc⟩
 | nils =>
  intro v m m' ρ D Lv md c h hS hc
  cases v <;> simp only [mat, reduceCtorEq, Option.some.injEq] at h
  subst h
  exact ⟨ρ, D, Lv, [], [], [], ⟨Rho.le.refl _, Snap.le.refl _, hS, Ext.refl _, rfl, rfl, fun _ _ h => h⟩, rfl, rfl, rfl, hc⟩
 | kb b =>
  intro v m m' ρ D Lv md c h hS hc
  cases v <;> simp only [mat, reduceCtorEq] at h
  rename_i b'
  cases hb : (b == b') with
  | false => rw [hb] at h; cases h
  | true =>
   rw [hb] at h
   simp only [cond_true, Option.some.injEq] at h
   subst h
   simp only [beq_iff_eq] at hb
   subst hb
   exact ⟨ρ, D, Lv, [], [], [], ⟨Rho.le.refl _, Snap.le.refl _, hS, Ext.refl _, rfl, rfl, fun _ _ h => h⟩, rfl, rfl, rfl, hc⟩
end
end Go.Sep
