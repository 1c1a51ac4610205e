/-
 Symbolic execution: one operation of a region that draws its order, on what is sure to be there.
-/
import Derived.Test.YtomndohdnfebgaaGreatDoorSxO
namespace Go.Sep
section
variable {T : Tb} {C : Cx T} {ct : Ct} {ρ : Rho} {D : Snap} {Lv R : List Blk} {s : SS T} {a : Act} {w : World}
variable {rd : Option Nat} {ops : Array Oper} {Q : Exit → Act → World → Prop} {i : Nat} {o : Oper} {Cn : Act → World → Prop}
theorem blt_d {a b : Nat} (h : Nat.blt a b = true) : a < b := by rw [Nat.blt_eq] at h; exact h
def Rho.cut (ρ : Rho) (n : Nat) : Rho := fun i => if i < n then ρ i else none
theorem Rho.cut_le (ρ : Rho) (n : Nat) : (ρ.cut n).le ρ := fun i p h => by
 unfold Rho.cut at h
 split at h
 ·exact h
 ·cases h
theorem Rho.cut_at {ρ : Rho} {n i : Nat} (h : i < n) : ρ.cut n i = ρ i := if_pos h
theorem Rho.cut_mono {ρ ρ' : Rho} {n m : Nat} (h : ∀ i p, i < n → ρ i = some p → ρ' i = some p) (hn : n ≤ m) : (ρ.cut n).le (ρ'.cut m) := fun i p hp => by
 unfold Rho.cut at hp
 split at hp
 ·rename_i hi
  rw [Rho.cut_at (by omega)]
  exact h i p hi hp
 ·cases hp
theorem Rho.cut_id {ρ : Rho} {n : Nat} (h : ∀ i p, ρ i = some p → i < n) : ρ.cut n = ρ := funext fun i => by
 unfold Rho.cut
 split
 ·rfl
 ·rename_i hi
  cases hp : ρ i with
  | none => rfl
  | some p => exact absurd (h i p hp) hi
theorem RX_cut {n : Nat} : ∀ (sv : SV T) (m : Bool) (c : List Value), idB n sv = true → RX ρ D sv m c → RX (ρ.cut n) D sv m c := by
 intro sv
 induction sv with
 | dt t x => exact fun m c _ h => h
 | kb b => exact fun _ _ _ h => h
 | raw v => exact fun _ _ _ h => h
 | nils => exact fun _ _ _ h => h
 | agg l ih => exact fun m c hi h => ih false c hi h
 | tup l ih => exact fun m c hi ⟨vs, h, e⟩ => ⟨vs, ih true vs hi h, e⟩
 | fn f l ih => exact fun m c hi ⟨vs, h, e⟩ => ⟨vs, ih true vs hi h, e⟩
 | nl => exact fun _ _ _ h => h
 | cs h t ih1 ih2 =>
  intro m c hi hc
  have hi : (idB n h && idB n t) = true := hi
  rw [Bool.and_eq_true] at hi
  cases m with
  | false => obtain ⟨c1, c2, e, h1, h2⟩ := hc; exact ⟨c1, c2, e, ih1 _ _ hi.1 h1, ih2 _ _ hi.2 h2⟩
  | true =>
   obtain ⟨v, c2, e, h1, h2⟩ := hc
   refine ⟨v, c2, e, ?_, ih2 _ _ hi.2 h2⟩
   cases ha : agS h with
   | true => rw [ha] at h1; obtain ⟨c1, h3, h4⟩ := h1; exact ⟨c1, ih1 _ _ hi.1 h3, h4⟩
   | false => rw [ha] at h1; exact ih1 _ _ hi.1 h1
 | ptr b off => exact fun _ _ hi ⟨m, h, e⟩ => ⟨m, by rw [Rho.cut_at (blt_d hi)]; exact h, e⟩
 | cell t x => exact fun _ _ _ h => h
 | own o => exact fun _ _ hi ⟨A, cap, len, h, e⟩ => ⟨A, cap, len, by rw [Rho.cut_at (blt_d hi)]; exact h, e⟩
 | elt o i off es => exact fun _ _ hi ⟨b, cap, len, h, e⟩ => ⟨b, cap, len, by rw [Rho.cut_at (blt_d hi)]; exact h, e⟩
 | ela b off i n' k => exact fun _ _ hi ⟨m, h, e⟩ => ⟨m, by rw [Rho.cut_at (blt_d hi)]; exact h, e⟩
 | eva b off i n' y fo => exact fun _ _ hi ⟨m, h, e⟩ => ⟨m, by rw [Rho.cut_at (blt_d hi)]; exact h, e⟩
 | yld i => exact fun _ _ hi ⟨m, h, e⟩ => ⟨m, by rw [Rho.cut_at (blt_d hi)]; exact h, e⟩
 | mp ks l ih => exact fun m c hi ⟨r, es, clk, e, h1, h2, h3⟩ => ⟨r, es, clk, e, h1, h2, ih _ _ hi h3⟩
theorem RV_cut {n : Nat} {sv : SV T} {v : Value} (hi : idB n sv = true) (h : RV ρ D sv v) : RV (ρ.cut n) D sv v := by
 unfold RV at h ⊢
 cases ha : agS sv with
 | true => rw [ha] at h; obtain ⟨c, h1, h2⟩ := h; exact ⟨c, RX_cut _ _ _ hi h1, h2⟩
 | false => rw [ha] at h; exact RX_cut _ _ _ hi h
theorem RBk_cut {n id : Nat} {b : SB T} {q : Blk} (hn : id < n) (hi : idBB n b = true) (h : RBk ρ D id b q) : RBk (ρ.cut n) D id b q := by
 cases b with
 | var t v => obtain ⟨m, c, h1, h2, h3⟩ := h; exact ⟨m, c, by rw [Rho.cut_at hn]; exact h1, RX_cut _ _ _ hi h2, h3⟩
 | own t e xs f => obtain ⟨A, cap, h1, h2⟩ := h; exact ⟨A, cap, by rw [Rho.cut_at hn]; exact h1, h2⟩
 | lnt t xs => obtain ⟨A, cap, h1, h2⟩ := h; exact ⟨A, cap, by rw [Rho.cut_at hn]; exact h1, h2⟩
theorem RLs_cut {n : Nat} : ∀ {L : List (Nat × Nat × SB T)} {Ls : List Blk}, (∀ e ∈ L, ∀ q, RBk ρ D e.1 e.2.2 q → RBk (ρ.cut n) D e.1 e.2.2 q) → RLs ρ D L Ls → RLs (ρ.cut n) D L Ls
 | [], _, _, h => h
 | e :: _, _, hc, ⟨q, Ls', h1, h2, h3⟩ => ⟨q, Ls', h1, hc e List.mem_cons_self q h2, RLs_cut (fun e' he => hc e' (List.mem_cons_of_mem _ he)) h3⟩
theorem RLs_perm {L L' : List (Nat × Nat × SB T)} (hp : L.Perm L') : ∀ {Ls : List Blk}, RLs ρ D L Ls → ∃ Ls', Ls.Perm Ls' ∧ RLs ρ D L' Ls' := by
 induction hp with
 | nil => exact fun h => ⟨_, List.Perm.refl _, h⟩
 | cons x _ ih => rintro Ls ⟨q, Ls', rfl, h2, h3⟩; obtain ⟨Z, h4, h5⟩ := ih h3; exact ⟨q :: Z, h4.cons q, q, Z, rfl, h2, h5⟩
 | swap x y l => rintro Ls ⟨q, Ls', rfl, h2, q1, Ls1, rfl, h4, h5⟩; exact ⟨q1 :: q :: Ls1, List.Perm.swap _ _ _, q1, _, rfl, h4, q, Ls1, rfl, h2, h5⟩
 | trans _ _ ih1 ih2 => intro Ls h; obtain ⟨Z, h1, h2⟩ := ih1 h; obtain ⟨Z', h3, h4⟩ := ih2 h2; exact ⟨Z', h1.trans h3, h4⟩
theorem lookA_perm {L L' : List (Nat × Nat × SB T)} (hp : L.Perm L') (hn : (L.map (·.1)).Nodup) {id : Nat} {x : Nat × SB T} (h : lookA L' id = some x) : lookA L id = some x :=
 lookA_of_mem (x := (id, x)) (hp.symm.subset (lookA_mem h)) hn
theorem RSx.perm {L' : List (Nat × Nat × SB T)} (h : RSx ct ρ D Lv R s a w) (hp : s.L.Perm L') : ∃ Lv', RSx ct ρ D Lv' R { s with L := L' } a w := by
 obtain ⟨Lv', h1, h2⟩ := RLs_perm hp h.l
 exact ⟨Lv', h.rb, h.dom, fun e he => h.ver e (hp.symm.subset he), (hp.map _).nodup_iff.1 h.nd, h.size, h.ds, h.e, h2, h.st.prm (List.Perm.append_right R h1), h.fr,
  fun id n t c hi => ⟨(h.ini id n t c hi).1, fun b hl => (h.ini id n t c hi).2 b (lookA_perm hp h.nd hl)⟩, h.ex, h.o⟩
/-- what an operation on a part leaves as it is -/
def frD (ct : Ct) (md : Nat) (D0 : Snap) (dst : Option Tmp) (a0 : Act) (Lh Rh : List Blk) : Frm where
 p := fun _ D' a' R' => D0.le D' ∧ (∀ x, dst ≠ some x → a'.tmps[x]? = a0.tmps[x]?) ∧ a'.defers = a0.defers ∧ ∃ R0, R' = Lh ++ R0 ∧ (∀ q ∈ Rh, q ∈ R0) ∧ ct.fr.p md D' a' R0
 t := fun x => dst ≠ some x ∨ ct.fr.t x
 mono := fun hd ⟨h1, h2, h5, R0, h3, h6, h4⟩ => ⟨h1.trans hd, h2, h5, R0, h3, h6, ct.fr.mono hd h4⟩
 put := fun {_ _ _ _ _ d} ht hs he ⟨h1, h2, h5, R0, h3, h6, h4⟩ => by
  refine ⟨h1, fun x hx => ?_, he.trans h5, R0, h3, h6, ct.fr.put (fun x hx hn => ht x hx (.inr hn)) hs he h4⟩
  rw [hs x fun e => ht x e (.inl hx)]
  exact h2 x hx
theorem exD_ok (hC : CxSp C ct) (hfr : ∀ x, o.dst = some x → ¬ ct.fr.t x) {α : Type} {k : SS T → Option α} {r : α} (h : RSx ct ρ D Lv R s a w) (ho : ops[i]? = some o) (hd : dstOk ct.n o.dst = true) (hs : exD C ops o s k = some r)
  (hk : ∀ s' a' w', Ext s s' → k s' = some r → RS ct s' a' w' → Cn a' w') : Op1 C.P rd ops Q i Cn a w := by
 have hgd := guardS_ok (ops := ops) h o
 unfold exD at hs
 split at hs
 ·rename_i hgs
  rw [hgs] at hgd
  exact exO_ok hC hfr h ho hgd hd hs hk
 ·rename_i hgs
  rw [hgs] at hgd
  exact skip_ok hfr h ho hgd hd fun a' h' => hk _ a' w (Ext.put _ _ _) hs h'
 ·rename_i t b wt hgs
  rw [hgs] at hgd
  obtain ⟨hl, hgd⟩ := hgd
  cases b with
  | true =>
   simp only [cond_true] at hs
   have h1 := h.know hl rfl
   cases wt with
   | true => exact exO_ok hC hfr h1 ho hgd hd hs fun s' a' w' hx => hk s' a' w' ((Ext.know _ _ _).trans hx)
   | false => exact skip_ok hfr h1 ho hgd hd fun a' h' => hk _ a' w ((Ext.know _ _ _).trans (Ext.put _ _ _)) hs h'
  | false =>
   simp only [cond_false] at hs
   have h1 := h.know hl rfl
   cases wt with
   | true => exact skip_ok hfr h1 ho hgd hd fun a' h' => hk _ a' w ((Ext.know _ _ _).trans (Ext.put _ _ _)) hs h'
   | false => exact exO_ok hC hfr h1 ho hgd hd hs fun s' a' w' hx => hk s' a' w' ((Ext.know _ _ _).trans hx)
 ·cases hs
/-- an operation comes to this -/
def EvO (C : Cx T) (ops : Array Oper) (o : Oper) (kd : Nat) (r r' : SS T) : Prop := exD C ops o r some = some r' ∨ ∃ q y, panD C o kd r = some q ∧ q.x = some (.inr y) ∧ q.f y = some r'
theorem evO_ok (hC : CxSp C ct) (hfr : ∀ x, o.dst = some x → ¬ ct.fr.t x) {kd : Nat} {r' : SS T} (h : RSx ct ρ D Lv R s a w) (ho : ops[i]? = some o) (hd : dstOk ct.n o.dst = true) (hs : EvO C ops o kd s r')
  (hk : ∀ a' w', Ext s r' → RS ct r' a' w' → Cn a' w') : Op1 C.P rd ops Q i Cn a w := by
 rcases hs with h1 | ⟨q, y, h1, h2, h3⟩
 ·exact exD_ok hC hfr h ho hd h1 fun s' a' w' hx hs' => by cases hs'; exact hk a' w' hx
 ·unfold panD at h1
  split at h1
  ·rename_i hg
   exact panS_ok (kp := fun _ _ _ => none) (k := some) (r := r') hC hfr h ho (by unfold guardOf; rw [hg]) hd h1 (by unfold POut.run sm; rw [h2]; simp only [h3]) (fun s' a' w' hx hs' => by cases hs'; exact hk a' w' hx) (fun _ _ _ _ _ h => by cases h)
  ·cases h1
theorem sub_perm {β : Type} : ∀ {X Y : List β}, X.Nodup → (∀ e ∈ X, e ∈ Y) → ∃ H, Y.Perm (X ++ H)
 | [], Y, _, _ => ⟨Y, List.Perm.refl _⟩
 | x :: X, Y, hn, h => by
  rw [List.nodup_cons] at hn
  obtain ⟨A, B, rfl⟩ := List.append_of_mem (h x List.mem_cons_self)
  obtain ⟨H, hH⟩ := sub_perm (X := X) (Y := A ++ B) hn.2 fun e he => by
   have h1 := h e (List.mem_cons_of_mem _ he)
   rcases List.mem_append.1 h1 with h2 | h2
   ·exact List.mem_append_left _ h2
   ·rcases List.mem_cons.1 h2 with rfl | h2
    ·exact absurd he hn.1
    ·exact List.mem_append_right _ h2
  exact ⟨H, List.perm_middle.trans (hH.cons x)⟩
theorem nodup_fst {L : List (Nat × Nat × SB T)} (h : (L.map (·.1)).Nodup) : L.Nodup := by
 unfold List.Nodup at h ⊢
 rw [List.pairwise_map] at h
 exact h.imp fun hx e => hx (by rw [e])
/-- an operation that is run on a part of what there is -/
theorem part_gen (hC : CxSp C ct) (hfr : ∀ x, o.dst = some x → ¬ ct.fr.t x) {L H : List (Nat × Nat × SB T)} {N : Nat} {md : Md T} {r s' : SS T} {G : Prop} (h : RSx ct ρ D Lv R ⟨[], L, N, md⟩ a w) (hL : L.Perm (r.L ++ H))
  (hE : ∀ t sv, lookA r.E t = some sv → ∃ v, a.tmps[t]? = some v ∧ RV (ρ.cut r.nx) D sv v)
  (hcL : ∀ e ∈ r.L, ∀ q, RBk ρ D e.1 e.2.2 q → RBk (ρ.cut r.nx) D e.1 e.2.2 q) (hver : ∀ e ∈ r.L, e.2.1 < r.nx) (hro : ∀ t sv, lookA r.md.O t = some sv → ∀ b ∈ ptrsV sv, (ρ.cut r.nx) b ≠ none)
  (hini : ∀ id n t c, ct.ini id = some (n, t, c) → id < r.nx) (hnb : ct.nb ≤ r.nx) (hfree : ∀ id, r.nx ≤ id → id < s'.nx → ρ id = none) (hN : s'.nx ≤ N)
  (hid : ∀ e ∈ s'.L, r.nx ≤ e.1 ∨ ∃ x, lookA r.L e.1 = some x)
  (hrun : ∀ ct' : Ct, CxSp C ct' → (∀ x, o.dst = some x → ¬ ct'.fr.t x) → ct'.n = ct.n → (∃ Lr Rr, RSx ct' (ρ.cut r.nx) D Lr Rr r a w) → (∀ a' w', Ext r s' → RS ct' s' a' w' → Cn a' w') → G)
  (hk : ∀ ρ' D' Lv' R' a' w', ρ.le ρ' → D.le D' → (∀ id p, ρ' id = some p → ρ id = some p ∨ (r.nx ≤ id ∧ id < s'.nx)) → RSx ct ρ' D' Lv' R' ⟨[], s'.L ++ H, N, md⟩ a' w' → (∀ x, o.dst ≠ some x → a'.tmps[x]? = a.tmps[x]?) →
   (∀ t sv, lookA s'.E t = some sv → ∃ v, a'.tmps[t]? = some v ∧ RV ρ' D' sv v) → Ext r s' → (∀ e ∈ s'.L, e.2.1 < s'.nx) → Cn a' w') : G := by
 obtain ⟨Lp, hp1, hp2⟩ := RLs_perm hL h.l
 obtain ⟨Lr, Lh, rfl, hl1, hl2⟩ := RLs_split hp2
 have hnd : ((r.L ++ H).map (·.1)).Nodup := (hL.map _).nodup_iff.1 h.nd
 have hnd' : (r.L.map (·.1)).Nodup ∧ (H.map (·.1)).Nodup ∧ ∀ x ∈ r.L.map (·.1), ∀ y ∈ H.map (·.1), x ≠ y := by rw [List.map_append, List.nodup_append] at hnd; exact hnd
 let ct' : Ct := { ct with rb := ρ.cut r.nx, nb := r.nx, fr := frD ct md.m D o.dst a Lh R }
 have hC' : CxSp C ct' := ⟨⟨hC.tb, hC.gl⟩, hC.sp, hC.n, hC.rv, hC.mp⟩
 have hS1 : Stp ct.g ct.w0 ct.D0 ct.L0 w D (Lr ++ (Lh ++ R)) := by
  have := h.st.prm (List.Perm.append_right R hp1)
  rwa [List.append_assoc] at this
 have hR : RSx ct' (ρ.cut r.nx) D Lr (Lh ++ R) r a w := by
  refine ⟨Rho.le.refl _, fun j p hj => ?_, hver, hnd'.1, h.size, DsOk.mono h.ds (fun q hq => List.mem_append_right _ hq), hE, RLs_cut hcL hl1, hS1, ⟨Snap.le.refl _, fun _ _ => rfl, rfl, R, rfl, fun _ hq => hq, h.fr⟩, fun id n t c hi => ?_, ⟨Nat.le_refl _, fun j _ hj => hj⟩, hro⟩
  ·unfold Rho.cut at hj
   split at hj
   ·assumption
   ·cases hj
  ·obtain ⟨h1, h2⟩ := h.ini id n t c hi
   refine ⟨by rw [Rho.cut_at (hini id n t c hi)]; exact h1, fun b hb => h2 b ?_⟩
   exact lookA_of_mem (x := (id, id, b)) (hL.symm.subset (List.mem_append_left _ (lookA_mem hb))) h.nd
 refine hrun ct' hC' (fun x hx hn => hn.elim (fun e => e hx) (hfr x hx)) rfl ⟨Lr, _, hR⟩ fun a' w' hx hS' => ?_
 obtain ⟨ρ2, D2, Lv2, R2, H2⟩ := hS'
 obtain ⟨hd2, hslot, hdf, R0, rfl, hR0, hfr2⟩ := H2.fr
 let ρ' : Rho := fun id => if r.nx ≤ id ∧ id < s'.nx then ρ2 id else ρ id
 have hle : ρ.le ρ' := fun id p hp => by
  simp only [ρ']
  split
  ·rename_i hh; rw [hfree id hh.1 hh.2] at hp; cases hp
  ·exact hp
 have hlow : ∀ id, id < r.nx → ρ2 id = ρ id := fun id hlt => by
  cases hc : ρ id with
  | none => exact H2.ex.2 id hlt (by show ρ.cut r.nx id = none; rw [Rho.cut_at hlt]; exact hc)
  | some p => exact H2.rb id p (by show ρ.cut r.nx id = some p; rw [Rho.cut_at hlt]; exact hc)
 have hle2 : ρ2.le ρ' := fun id p hp => by
  have hlt := H2.dom id p hp
  simp only [ρ']
  by_cases hh : r.nx ≤ id
  ·rw [if_pos ⟨hh, hlt⟩]; exact hp
  ·rw [if_neg (fun e => hh e.1), ← hlow id (by omega)]; exact hp
 have hnx := hx.nx
 refine hk ρ' D2 (Lv2 ++ Lh) R0 a' w' hle hd2 (fun id p hp => ?_) ?_ hslot (fun t sv ht => ?_) hx (fun e he => H2.ver e he)
 ·simp only [ρ'] at hp
  split at hp
  ·rename_i hh; exact .inr hh
  ·exact .inl hp
 ·have hdis : ∀ e ∈ s'.L, e.1 ∉ H.map (·.1) := by
   intro e he hm
   rcases hid e he with h1 | ⟨x, hx1⟩
   ·obtain ⟨p, hp⟩ := RLs_dom H2.l he
    have hlt := H2.dom _ _ hp
    obtain ⟨f, hf, hfe⟩ := List.mem_map.1 hm
    obtain ⟨p2, hp2⟩ := RLs_dom h.l (hL.symm.subset (List.mem_append_right _ hf))
    rw [hfe, hfree _ h1 hlt] at hp2
    cases hp2
   ·exact hnd'.2.2 e.1 (List.mem_map.2 ⟨_, lookA_mem hx1, rfl⟩) _ hm rfl
  have hndn : ((s'.L ++ H).map (·.1)).Nodup := by
   rw [List.map_append, List.nodup_append]
   refine ⟨H2.nd, hnd'.2.1, fun x hx y hy e => ?_⟩
   subst e
   obtain ⟨e, he, rfl⟩ := List.mem_map.1 hx
   exact hdis e he hy
  have hS2 : Stp ct.g ct.w0 ct.D0 ct.L0 w' D2 ((Lv2 ++ Lh) ++ R0) := by
   rw [List.append_assoc]; exact H2.st
  have hiniH : IniQ ct ρ' ⟨[], H, N, md⟩ w' := IniQ.mv (s := ⟨[], L, N, md⟩) h.ini hle hS1.st H2.st.st fun id b p hp hl => by
   refine ⟨lookA_of_mem (x := (id, id, b)) (hL.symm.subset (List.mem_append_right _ (lookA_mem hl))) h.nd, ?_⟩
   obtain ⟨X, q, Y, e1, h1, _⟩ := RLs_at hl2 hl
   exact ⟨q, D, h1, by rw [e1]; simp, by rw [e1]; simp⟩
  refine ⟨h.rb.trans hle, fun j p hj => ?_, fun e he => ?_, hndn, H2.size, (by rw [hdf]; exact DsOk.mono h.ds hR0), fun t sv ht => (by cases ht), RLs_app (RLs_mono hle2 (Snap.le.refl _) H2.l) (RLs_mono hle hd2 hl2), hS2, ct.fr.mono (Snap.le.refl _) hfr2, fun id n t c hi => ?_, ⟨h.ex.1, fun j hj hn => ?_⟩, h.o⟩
  ·show j < N
   simp only [ρ'] at hj
   split at hj
   ·omega
   ·exact h.dom j p hj
  ·show e.2.1 < N
   rcases List.mem_append.1 he with he | he
   ·have := H2.ver e he; omega
   ·exact h.ver e (hL.symm.subset (List.mem_append_right _ he))
  ·refine ⟨(hiniH id n t c hi).1, fun b hl => ?_⟩
   have hl : lookA (s'.L ++ H) id = some (id, b) := hl
   rw [lookA_app] at hl
   cases h1 : lookA s'.L id with
   | some x =>
    rw [h1] at hl
    simp only [Option.some_or, Option.some.injEq] at hl
    subst hl
    exact (H2.ini id n t c hi).2 b h1
   | none =>
    rw [h1, Option.none_or] at hl
    exact (hiniH id n t c hi).2 b hl
  ·have h1 : ct.nb ≤ r.nx := hnb
   simp only [ρ']
   rw [if_neg (by omega)]
   exact h.ex.2 j hj hn
 ·obtain ⟨v, h1, h2⟩ := H2.e t sv ht
  exact ⟨v, h1, RV_mono hle2 (Snap.le.refl _) h2⟩
theorem part_ok (hC : CxSp C ct) (hfr : ∀ x, o.dst = some x → ¬ ct.fr.t x) {L H : List (Nat × Nat × SB T)} {N : Nat} {md : Md T} {kd : Nat} {r r' : SS T} (h : RSx ct ρ D Lv R ⟨[], L, N, md⟩ a w) (hL : L.Perm (r.L ++ H))
  (hE : ∀ t sv, lookA r.E t = some sv → ∃ v, a.tmps[t]? = some v ∧ RV (ρ.cut r.nx) D sv v)
  (hcL : ∀ e ∈ r.L, ∀ q, RBk ρ D e.1 e.2.2 q → RBk (ρ.cut r.nx) D e.1 e.2.2 q) (hver : ∀ e ∈ r.L, e.2.1 < r.nx) (hro : ∀ t sv, lookA r.md.O t = some sv → ∀ b ∈ ptrsV sv, (ρ.cut r.nx) b ≠ none)
  (hini : ∀ id n t c, ct.ini id = some (n, t, c) → id < r.nx) (hnb : ct.nb ≤ r.nx) (hfree : ∀ id, r.nx ≤ id → id < r'.nx → ρ id = none) (hN : r'.nx ≤ N)
  (ho : ops[i]? = some o) (hd : dstOk ct.n o.dst = true) (hev : EvO C ops o kd r r') (hid : ∀ e ∈ r'.L, r.nx ≤ e.1 ∨ ∃ x, lookA r.L e.1 = some x)
  (hk : ∀ ρ' D' Lv' R' a' w', ρ.le ρ' → D.le D' → (∀ id p, ρ' id = some p → ρ id = some p ∨ (r.nx ≤ id ∧ id < r'.nx)) → RSx ct ρ' D' Lv' R' ⟨[], r'.L ++ H, N, md⟩ a' w' → (∀ x, o.dst ≠ some x → a'.tmps[x]? = a.tmps[x]?) →
   (∀ t sv, lookA r'.E t = some sv → ∃ v, a'.tmps[t]? = some v ∧ RV ρ' D' sv v) → Ext r r' → (∀ e ∈ r'.L, e.2.1 < r'.nx) → Cn a' w') : Op1 C.P rd ops Q i Cn a w :=
 part_gen hC hfr h hL hE hcL hver hro hini hnb hfree hN hid (fun ct' hC' hfr' hn ⟨_, _, hR⟩ hk' => evO_ok hC' hfr' hR ho (by rw [hn]; exact hd) hev hk') hk
/-- .. that panics; K: what is left -/
theorem part_pan (hC : CxSp C ct) (hfr : ∀ x, o.dst = some x → ¬ ct.fr.t x) {L H K : List (Nat × Nat × SB T)} {N : Nat} {md : Md T} {r : SS T} {E0 : List (Nat × SV T)} (hE0 : ∀ t sv, lookA E0 t = some sv → ∃ v, a.tmps[t]? = some v ∧ RV ρ D sv v) (h : RSx ct ρ D Lv R ⟨[], L, N, md⟩ a w) (hL : L.Perm (r.L ++ H))
  (hE : ∀ t sv, lookA r.E t = some sv → ∃ v, a.tmps[t]? = some v ∧ RV (ρ.cut r.nx) D sv v)
  (hcL : ∀ e ∈ r.L, ∀ q, RBk ρ D e.1 e.2.2 q → RBk (ρ.cut r.nx) D e.1 e.2.2 q) (hver : ∀ e ∈ r.L, e.2.1 < r.nx) (hro : ∀ t sv, lookA r.md.O t = some sv → ∀ b ∈ ptrsV sv, (ρ.cut r.nx) b ≠ none)
  (hini : ∀ id n t c, ct.ini id = some (n, t, c) → id < r.nx) (hnb : ct.nb ≤ r.nx) {q : POut T} (hfree : ∀ id, r.nx ≤ id → id < q.s.nx → ρ id = none) (hN : q.s.nx ≤ N)
  (hid : ∀ e ∈ q.s.L, r.nx ≤ e.1 ∨ ∃ x, lookA r.L e.1 = some x) (hgd : o.guard = none) (ho : ops[i]? = some o) (hd : dstOk ct.n o.dst = true) {e : Int} (hq : panS C r o = some q) (hqe : q.x = some (.inl e)) (hK : (K.map (·.1)).Nodup) (hKs : Ext r q.s → ∀ e ∈ K, e ∈ q.s.L)
  (hp : ∀ w', RS ct ⟨E0, K, N, md⟩ a w' → Q (.panic [{ v := pvV q.v e, recovered := false }]) a w') : Op1 C.P rd ops Q i Cn a w := by
 refine part_gen (s' := q.s) (Cn := fun a' w' => a' = a → Q (.panic [{ v := pvV q.v e, recovered := false }]) a' w') hC hfr h hL hE hcL hver hro hini hnb hfree hN hid (fun ct' hC' hfr' hn ⟨_, _, hR⟩ hk' => ?_) fun ρ' D' Lv' R' a' w' hle hd' _ hcore hslot _ hx _ ha => ?_
 ·refine panS_ok (k := fun _ => (none : Option ((TypeId × Bool) × Int × SS T))) (r := (q.v, e, q.s)) (kp := fun x e' s' => some (x, e', s')) hC' hfr' hR ho (by unfold guardOf; rw [hgd]) (by rw [hn]; exact hd) hq (by unfold POut.run sm; rw [hqe]) (fun _ _ _ _ h => by cases h) fun x e' s' w' hx hke hS' => ?_
  simp only [Option.some.injEq, Prod.mk.injEq] at hke
  obtain ⟨rfl, rfl, rfl⟩ := hke
  exact hk' a w' hx hS' rfl
 ·subst ha
  obtain ⟨X, hX⟩ := sub_perm (nodup_fst hK) fun e he => List.mem_append_left H (hKs hx e he)
  obtain ⟨Lw, h1, h2⟩ := RLs_perm hX hcore.l
  obtain ⟨Y, Z, rfl, h3, h4⟩ := RLs_split h2
  have hS2 := hcore.st.prm (List.Perm.append_right R' (h1.trans List.perm_append_comm))
  rw [List.append_assoc] at hS2
  refine hp w' ⟨ρ', D', Y, R', hcore.rb, hcore.dom, fun e he => hcore.ver e (hX.symm.subset (List.mem_append_left _ he)), hK, hcore.size, hcore.ds, fun t sv ht => (hE0 t sv ht).imp fun v hv => ⟨hv.1, RV_mono hle hd' hv.2⟩, h3, hS2.drops, hcore.fr, fun id n t c hi => ?_, hcore.ex, hcore.o⟩
  obtain ⟨g1, g2⟩ := hcore.ini id n t c hi
  exact ⟨g1, fun b hb => g2 b (lookA_of_mem (x := (id, id, b)) (hX.symm.subset (List.mem_append_left _ (lookA_mem hb))) hcore.nd)⟩
end
end Go.Sep
