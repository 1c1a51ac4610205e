/-
 Symbolic execution: code.
-/
import Derived.Test.YtomndohdnfebgaaGreatDoorSxY
namespace Go.Sep
section
variable {T : Tb} {C : Cx T} {ct : Ct} {ρ : Rho} {D : Snap} {Lv R : List Blk} {s : SS T} {a : Act} {w : World} {rd : Option Nat}
theorem Ext.xeE {m : Nat} {s s' : SS T} (h : Ext s s') (he : s'.E = s.E) : XE m s s' := ⟨fun t _ sv hl => ⟨sv, by rw [he]; exact hl, fun _ _ _ h => h⟩, h.nx, h.l⟩
theorem lendS_ok (m : Nat) : ∀ (ts : List Nat) (s s' : SS T), lendS ts s = some s' → RS ct s a w → RS ct s' a w ∧ XE m s s'
 | [], s, s', h, hS => by
  simp only [lendS, Option.some.injEq] at h
  subst h
  exact ⟨hS, XE.refl _ _⟩
 | t :: ts, s, s', h, hS => by
  simp only [lendS] at h
  split at h
  ·rename_i o ho
   split at h
   ·rename_i ver y e xs hl
    obtain ⟨ρ, D, Lv, R, hS⟩ := hS
    obtain ⟨D', Lv', A, cap, hd, h1, h2, h3⟩ := hS.lend hl
    have h4 : XE m s (s.wr o (.own y e xs false)) := (Ext.wr _ _ _).xeE rfl
    obtain ⟨g1, g2⟩ := lendS_ok m ts _ s' h ⟨ρ, D', Lv', R, h1⟩
    exact ⟨g1, h4.trans g2 fun t ht => ⟨ht, ht⟩⟩
   ·exact lendS_ok m ts s s' h hS
   ·cases h
  ·cases h
theorem oE_some {α β : Type} {x : Option α} {k : α → Option β} {r : β} (h : oE x k = some r) : ∃ y, x = some y ∧ k y = some r := by
 cases x with
 | none => cases h
 | some y => exact ⟨y, rfl, h⟩
theorem or_l {m1 m2 t : Nat} (h : (m1 ||| m2).testBit t = false) : m1.testBit t = false ∧ m2.testBit t = false := by
 rw [Nat.testBit_or] at h
 simpa using h
/-- what a turned state is good for -/
def Tn (ct : Ct) (q : Pj) (m : Nat) (s : SS T) (y : TU T.ty q.ty) (a : Act) (w : World) : Prop := ∀ s1, instJ q m s y = some s1 → RS ct s1 a w ∧ XE m s s1
theorem fzS_ok (hT : TbOk T) {P : Program} : ∀ (ts : List Nat) (s s' : SS T), fzS P ts s = some s' → RS ct s a w → RS ct s' a w ∧ XE (tsM ts) s s'
 | [], s, s', h, hS => by
  simp only [fzS, Option.some.injEq] at h
  subst h
  exact ⟨hS, XE.refl _ _⟩
 | t :: ts, s, s', h, hS => by
  unfold fzS at h
  split at h
  ·rename_i b hb
   split at h
   ·rename_i ver tid c hl
    split at h
    ·rename_i y hy
     split at h
     ·rename_i z s1 hf
      split at h
      ·rename_i ver' tid' c' hl1
       obtain ⟨ρ, D, Lv, R, hS⟩ := hS
       obtain ⟨X, Y, m, cs, _, h2, h3, h4, _⟩ := hS.var hl
       obtain ⟨D1, Lv1, hd1, h1, hr, hx⟩ := frz_ok hT 60 _ _ _ _ _ _ _ _ hf hS h3
       obtain ⟨X1, Y1, m1, cs1, rfl, g2, g3, g4, g5, _⟩ := h1.var hl1
       rw [h2] at g2
       cases g2
       rw [h4] at g4
       simp only [Option.some.injEq, Obj.cells.injEq, and_true] at g4
       have g6 : cs = cs1 := by
        have := congrArg Array.toList g4.1
        simpa using this
       subst g6
       obtain ⟨D2, hd2, hm, hR⟩ := h1.gone g5
       have hE := hR.e
       obtain ⟨v, hv1, hv2⟩ := hS.e t _ hb
       obtain ⟨m', h5, h6⟩ := RV_one' rfl hv2
       rw [h2] at h5
       cases h5
       cases h6
       have hR2 : RSx ct ρ D2 (X1 ++ Y1) R { E := (t, .cell y z) :: s.E, L := delB b s1.L, nx := s1.nx, md := s1.md } a w := ⟨hR.rb, hR.dom, hR.ver, hR.nd, hR.size, hR.ds, fun t' sv ht' => by
        simp only [lookA] at ht'
        cases hbt : Nat.beq t t' with
        | true =>
         rw [hbt] at ht'
         obtain rfl := Nat.eq_of_beq_eq_true hbt
         simp only [cond_true, Option.some.injEq] at ht'
         subst ht'
         refine ⟨_, hv1, RV_one rfl ⟨m, 0, rfl, cs, _, _, _, (kdT T y).mono _ _ _ _ hd2 hr, hm, fun j u hu => by simpa using hu⟩⟩
        | false =>
         rw [hbt] at ht'
         obtain ⟨v', g7, g8⟩ := hS.e t' sv ht'
         exact ⟨v', g7, RV_mono (Rho.le.refl _) (hd1.trans hd2) g8⟩, hR.l, hR.st, hR.fr, hR.ini, hR.ex, hR.o⟩
       obtain ⟨h7, h8⟩ := fzS_ok hT ts _ s' h ⟨ρ, D2, _, R, hR2⟩
       refine ⟨h7, ?_⟩
       have hx1 : XE (2 ^ t) s { E := (t, .cell y z) :: s.E, L := delB b s1.L, nx := s1.nx, md := s1.md } := by
        refine ⟨fun t' ht' sv hsv => ?_, hx.nx, fun id v sb hlk hv => hx.l id v sb (lookA_del id h1.nd hlk).2 hv⟩
        have hne : t ≠ t' := fun e => by subst e; simp [Nat.testBit_two_pow_self] at ht'
        refine ⟨sv, ?_, fun _ _ _ h => h⟩
        simp only [lookA]
        have : Nat.beq t t' = false := by
         cases hbt : Nat.beq t t' with
         | true => exact absurd (Nat.eq_of_beq_eq_true hbt) hne
         | false => rfl
        rw [this, cond_false, hsv]
       exact hx1.trans h8 fun t' ht' => or_l ht'
      ·cases h
     ·cases h
    ·cases h
   ·cases h
  ·cases h
theorem hM_ab {h : Hn} {t : Nat} (ht : (hM h).testBit t = false) : (hM h.a).testBit t = false ∧ (hM h.b).testBit t = false := by
 cases h with
 | n => exact ⟨ht, ht⟩
 | r o p f => exact ⟨by show (0 : Nat).testBit t = false; simp, by show (0 : Nat).testBit t = false; simp⟩
 | g x y z => exact ⟨by show (0 : Nat).testBit t = false; simp, by show (0 : Nat).testBit t = false; simp⟩
 | q o p f => exact ⟨by show (0 : Nat).testBit t = false; simp, by show (0 : Nat).testBit t = false; simp⟩
 | s a b => exact or_l ht
 | j q a b => exact or_l (or_l ht).2
 | l q z r b => exact ⟨(or_l (or_l ht).2).2, by show (0 : Nat).testBit t = false; simp⟩
theorem or_i {m1 m2 t : Nat} (h1 : m1.testBit t = false) (h2 : m2.testBit t = false) : (m1 ||| m2).testBit t = false := by rw [Nat.testBit_or, h1, h2]; rfl
theorem Wh_a {x y : Code} {h : Hn} {t : Nat} (ht : (wrM x ||| wrM y ||| hM h).testBit t = false) : (Wh x h.a).testBit t = false ∧ (Wh y h.b).testBit t = false := by
 obtain ⟨h1, h2⟩ := or_l ht
 obtain ⟨h3, h4⟩ := or_l h1
 obtain ⟨h5, h6⟩ := hM_ab h2
 exact ⟨or_i h3 h5, or_i h4 h6⟩
theorem mJ_W {q : Pj} {c : Code} {h : Hn} {t : Nat} (ht : (mJ q c h).testBit t = false) : (Wh c h).testBit t = false := or_i (or_l ht).1 (or_l (or_l ht).2).2
theorem mL_W {q : Pj} {z : Option Pj} {c : Code} {h : Hn} {t : Nat} (ht : (mL q z c h).testBit t = false) : (Wh c h).testBit t = false := or_i (or_l ht).1 (or_l (or_l (or_l ht).2).2).2
theorem Wj {q : Pj} {x y : Code} {ha hb : Hn} {t : Nat} (ht : (wrM x ||| wrM y ||| hM (.j q ha hb)).testBit t = false) : (mJ q x ha).testBit t = false ∧ (Wh y hb).testBit t = false := by
 obtain ⟨h1, h2⟩ := or_l ht
 obtain ⟨h3, h4⟩ := or_l h1
 obtain ⟨h5, h6⟩ := or_l h2
 obtain ⟨h7, h8⟩ := or_l h6
 exact ⟨or_i h3 (or_i h5 h7), or_i h4 h8⟩
theorem sxF_ok (sb : SubT T) (hsb : ∀ c, CdOk sb c) : ∀ (c : Code) {C : Cx T} {ct : Ct} {rd : Option Nat} (_ : CxAll C ct) (_ : rd = none ∨ C.Y = none ∧ C.rg = false) (h : Hn) (s : SS T) {α : Type} (k : Ke → SS T → Option α) (r : α) (Q : Exit → Act → World → Prop) (a : Act) (w : World), sxF sb C c h s k = some r → RS ct s a w →
  (∀ e s' a' w', XE (Wh c h) s s' → k e s' = some r → RS ct s' a' w' → Q (exK e) a' w') → c.wpIn (Fw rd) 0 C.P Q a w
 | .skip, C, ct, rd, hC, hrd, h, s, _, k, r, Q, a, w, hs, hS, hk => wpIn_skip (hk .nm s a w (XE.refl _ _) hs hS)
 | .ret, C, ct, rd, hC, hrd, h, s, _, k, r, Q, a, w, hs, hS, hk => wpIn_ret (hk .rt s a w (XE.refl _ _) hs hS)
 | .exit i, C, ct, rd, hC, hrd, h, s, _, k, r, Q, a, w, hs, hS, hk => wpIn_exit (hk (.ex i) s a w (XE.refl _ _) hs hS)
 | .seq x y, C, ct, rd, hC, hrd, h, s, α, k, r, Q, a, w, hs, hS, hk => by
  have gen : sxF sb C x h.a s (fun e s' => match e with
   | .nm => sxF sb C y h.b s' k
   | e => k e s') = some r → (Code.seq x y).wpIn (Fw rd) 0 C.P Q a w := fun hs => by
   refine wpIn_seq (sxF_ok sb hsb x hC hrd _ s _ r _ a w hs hS fun e s' a' w' hx hk' hS' => ?_)
   cases e with
   | nm => exact sxF_ok sb hsb y hC hrd _ s' k r Q a' w' hk' hS' fun e s2 a2 w2 hx2 => hk e s2 a2 w2 (hx.trans hx2 fun t ht => Wh_a ht)
   | rt => exact hk .rt s' a' w' (hx.mono fun t ht => (Wh_a ht).1) hk' hS'
   | ex i => exact hk (.ex i) s' a' w' (hx.mono fun t ht => (Wh_a ht).1) hk' hS'
   | pn x e => exact hk (.pn x e) s' a' w' (hx.mono fun t ht => (Wh_a ht).1) hk' hS'
  cases h with
  | n => exact gen hs
  | s ha hb => exact gen hs
  | l q z r' hb => exact gen hs
  | r ord fz pr => exact gen hs
  | g x y z => exact gen hs
  | q ord fz pr => exact gen hs
  | j q ha hb =>
   simp only [sxF] at hs
   obtain ⟨s0, hl, hs⟩ := oE_some hs
   obtain ⟨hS, hx0⟩ := lendS_ok (Wh (.seq x y) (.j q ha hb)) _ _ _ hl hS
   obtain ⟨j, hj, hs⟩ := jn_elim hs
   obtain ⟨ρ0, D0, Lv0, R0, hS0⟩ := hS
   refine seq_join (fun a w => ∃ y', (oE (instJ q (mJ q x ha) s0 y') fun s' => sxF sb C y hb s' k) = some r ∧ Tn ct q (mJ q x ha) s0 y' a w) (sxF_ok sb hsb x hC hrd ha s0 _ r _ a w hs ⟨ρ0, D0, Lv0, R0, hS0⟩ fun e s' a' w' hx hk' hS' => ?_) fun a' w' hX => ?_
   ·cases e with
    | nm =>
     obtain ⟨y', h1, h2⟩ := oE_some hk'
     obtain ⟨ρ, D, Lv, R, hS'⟩ := hS'
     exact ⟨y', hj y' h2, fun s1 h3 => join_ok hC.tb hS0 (hx.mono fun t ht => mJ_W ht) hS' h1 h3⟩
    | rt => exact hk .rt s' a' w' (hx0.trans hx fun t ht => ⟨ht, (Wh_a ht).1⟩) hk' hS'
    | ex i => exact hk (.ex i) s' a' w' (hx0.trans hx fun t ht => ⟨ht, (Wh_a ht).1⟩) hk' hS'
    | pn x e => exact hk (.pn x e) s' a' w' (hx0.trans hx fun t ht => ⟨ht, (Wh_a ht).1⟩) hk' hS'
   ·obtain ⟨y', h1, h2⟩ := hX
    obtain ⟨s1, h3, h4⟩ := oE_some h1
    obtain ⟨h5, h6⟩ := h2 s1 h3
    exact sxF_ok sb hsb y hC hrd hb s1 k r Q a' w' h4 h5 fun e s2 a2 w2 hx2 => hk e s2 a2 w2 (hx0.trans (h6.trans (m := Wh (.seq x y) (.j q ha hb)) hx2 fun t ht => Wj ht) fun t ht => ⟨ht, ht⟩)
 | .cond c x y, C, ct, rd, hC, hrd, h, s, α, k, r, Q, a, w, hs, hS, hk => by
  simp only [sxF] at hs
  obtain ⟨ρ, D, Lv, R, hS⟩ := hS
  split at hs
  ·rename_i hv
   obtain ⟨v, e1, r1⟩ := evS_ok hC.toCxOk hS hv
   obtain rfl := RV_kb r1
   exact cond_split hS.env e1 (fun _ => sxF_ok sb hsb x hC hrd _ s k r Q a w hs ⟨ρ, D, Lv, R, hS⟩ fun e s2 a2 w2 hx2 => hk e s2 a2 w2 (hx2.mono fun t ht => (Wh_a ht).1)) (fun h => by cases h)
  ·rename_i hv
   obtain ⟨v, e1, r1⟩ := evS_ok hC.toCxOk hS hv
   obtain rfl := RV_kb r1
   exact cond_split hS.env e1 (fun h => by cases h) (fun _ => sxF_ok sb hsb y hC hrd _ s k r Q a w hs ⟨ρ, D, Lv, R, hS⟩ fun e s2 a2 w2 hx2 => hk e s2 a2 w2 (hx2.mono fun t ht => (Wh_a ht).2))
  ·rename_i b hv
   split at hs
   ·rename_i t
    have ht : lookA s.E t = some (.dt .bool b) := hv
    obtain ⟨v, e1, r1⟩ := evS_ok hC.toCxOk hS hv
    obtain rfl := RV_bool r1
    cases b with
    | true => exact cond_split hS.env e1 (fun _ => sxF_ok sb hsb x hC hrd _ _ k r Q a w hs ⟨ρ, D, Lv, R, hS.know ht rfl⟩ fun e s2 a2 w2 hx2 => hk e s2 a2 w2 ((XE.know (m := wrM x ||| wrM y ||| hM h) ht rfl).trans hx2 fun t ht => ⟨ht, (Wh_a ht).1⟩)) (fun h => by cases h)
    | false => exact cond_split hS.env e1 (fun h => by cases h) (fun _ => sxF_ok sb hsb y hC hrd _ _ k r Q a w hs ⟨ρ, D, Lv, R, hS.know ht rfl⟩ fun e s2 a2 w2 hx2 => hk e s2 a2 w2 ((XE.know (m := wrM x ||| wrM y ||| hM h) ht rfl).trans hx2 fun t ht => ⟨ht, (Wh_a ht).2⟩))
   ·cases hs
  ·cases hs
 | .region i ops d, C, ct, rd, hC, hrd, h, s, α, k, r, Q, a, w, hs, hS, hk => by
  cases d with
  | true =>
   cases h with
   | r ord fz pr =>
    simp only [sxF] at hs
    cases hf : C.P.follows .mixedOrders with
    | false => rw [hf] at hs; cases hs
    | true =>
     rw [hf] at hs
     simp only [cond_true] at hs
     obtain ⟨s0, hfz, hs⟩ := oE_some hs
     obtain ⟨hS, hx0⟩ := fzS_ok hC.tb fz s s0 hfz hS
     refine drawS_ok (m := wrM (.region i ops true)) hC hf hS List.filter_sublist hs (fun l n a' w' hk' hx hS' => ?_) (fun x e K a' w' hk' hKs hS' => hk (.pn x e) _ a' w' (hx0.trans (m2 := wrM (.region i ops true)) ⟨fun t ht sv hl => ⟨sv, by rw [restE_in ht]; exact hl, fun _ _ _ h => h⟩, Nat.le_add_right _ _, fun id v sb hl _ => by
       obtain ⟨_, _, _, _, h0⟩ := hS
       exact lookA_of_mem (hKs.subset (lookA_mem hl)) h0.nd⟩ fun t ht => ⟨(or_l ht).2, (or_l ht).1⟩) hk' hS')
     cases hb : (preA l).all (fun e => (wrM (.region i ops true)).testBit e.1) with
     | false => rw [hb] at hk'; cases hk'
     | true =>
      rw [hb] at hk' hx
      exact hk .nm _ a' w' (hx0.trans (hx.resolve_right (by simp)) fun t ht => ⟨(or_l ht).2, (or_l ht).1⟩) hk' hS'
   | q ord fz pr =>
    simp only [sxF] at hs
    cases hf : C.P.follows .mixedOrders with
    | false => rw [hf] at hs; cases hs
    | true =>
     rw [hf] at hs
     simp only [cond_true] at hs
     obtain ⟨s0, hfz, hs⟩ := oE_some hs
     obtain ⟨hS, hx0⟩ := fzS_ok hC.tb fz s s0 hfz hS
     split at hs
     ·cases hs
     ·rename_i o ho
      refine drawP_ok (m := wrM (.region i ops true)) (kp := fun l n x e s' => bif keysIn (wrM (.region i ops true)) (s'.E.length - (endD s0.E s0.md s0.L l n).E.length) s'.E then k (.pn x e) s' else none) (kk := fun l n s' => bif keysIn (wrM (.region i ops true)) (s'.E.length - (endD s0.E s0.md s0.L l n).E.length) s'.E then k .nm s' else none) hC hrd ho hf hS List.filter_sublist hs (fun l n s' a' w' hx hx2 hk' hS' => ?_) (fun l n x e s' a' w' hx hx2 hk' hS' => ?_)
      ·cases hb : keysIn (wrM (.region i ops true)) (s'.E.length - (endD s0.E s0.md s0.L l n).E.length) s'.E with
       | false => rw [hb] at hk'; cases hk'
       | true =>
        rw [hb] at hk'
        exact hk .nm _ a' w' (hx0.trans (hx.trans (m := wrM (.region i ops true)) (hx2.xe hb) fun t ht => ⟨ht, ht⟩) fun t ht => ⟨(or_l ht).2, (or_l ht).1⟩) hk' hS'
      ·cases hb : keysIn (wrM (.region i ops true)) (s'.E.length - (endD s0.E s0.md s0.L l n).E.length) s'.E with
       | false => rw [hb] at hk'; cases hk'
       | true =>
        rw [hb] at hk'
        exact hk (.pn x e) _ a' w' (hx0.trans (hx.trans (m := wrM (.region i ops true)) (hx2.xe hb) fun t ht => ⟨ht, ht⟩) fun t ht => ⟨(or_l ht).2, (or_l ht).1⟩) hk' hS'
   | _ => simp only [sxF, reduceCtorEq] at hs
  | false =>
   simp only [sxF] at hs
   refine region_at (opsS_ok hC hrd ops.size 0 s a w hs hS (by omega) (fun s' a' w' hx hk' hS' => ?_) (fun x e s' a' w' hx hk' hS' => ?_))
   ·cases hb : keysIn (wrM (.region i ops false)) (s'.E.length - s.E.length) s'.E with
    | false => rw [hb] at hk'; cases hk'
    | true => rw [hb] at hk'; exact hk .nm s' a' w' ((hx.xe hb).mono fun t ht => (or_l ht).1) hk' hS'
   ·cases hb : keysIn (wrM (.region i ops false)) (s'.E.length - s.E.length) s'.E with
    | false => rw [hb] at hk'; cases hk'
    | true => rw [hb] at hk'; exact hk (.pn x e) s' a' w' ((hx.xe hb).mono fun t ht => (or_l ht).1) hk' hS'
 | .block i b, C, ct, rd, hC, hrd, h, s, α, k, r, Q, a, w, hs, hS, hk => by
  have gen : sxF sb C b h s (fun e s' => match e with
   | .ex j => bif Nat.beq i j then k .nm s' else k (.ex j) s'
   | e => k e s') = some r → (Code.block i b).wpIn (Fw rd) 0 C.P Q a w := fun hs => by
   refine wpIn_block (sxF_ok sb hsb b hC hrd h s _ r _ a w hs hS fun e s' a' w' hx hk' hS' => ?_)
   cases e with
   | nm => exact hk .nm s' a' w' hx hk' hS'
   | rt => exact hk .rt s' a' w' hx hk' hS'
   | pn x e => exact hk (.pn x e) s' a' w' hx hk' hS'
   | ex j =>
    simp only at hk'
    show (if j = i then Q .normal a' w' else Q (.exit j) a' w')
    cases hb : Nat.beq i j with
    | true =>
     rw [hb] at hk'
     rw [if_pos (Nat.eq_of_beq_eq_true hb).symm]
     exact hk .nm s' a' w' hx hk' hS'
    | false =>
     rw [hb] at hk'
     rw [if_neg (fun e => by subst e; simp at hb)]
     exact hk (.ex j) s' a' w' hx hk' hS'
  cases b with
  | loop b =>
   cases h with
   | n => exact gen hs
   | r ord fz pr => exact gen hs
   | g x y z => exact gen hs
   | q ord fz pr => exact gen hs
   | s ha hb => exact gen hs
   | j q ha hb => exact gen hs
   | l q z rr hb =>
    simp only [sxF] at hs
    obtain ⟨s0, hl, hs⟩ := oE_some hs
    obtain ⟨hS, hx0⟩ := lendS_ok (mL q z b hb) _ _ _ hl hS
    obtain ⟨y0, h0, hs⟩ := oE_some hs
    obtain ⟨ρ0, D0, Lv0, R0, hS0⟩ := hS
    have hin : Tn ct q (mL q z b hb) s0 y0 a w := fun s1 h3 => join_ok hC.tb hS0 (XE.refl _ _) hS0 h0 h3
    cases z with
    | none =>
     simp only at hs
     obtain ⟨res, hres, hr⟩ := Option.bind_eq_some_iff.1 hs
     simp only [Option.some.injEq] at hr
     subst hr
     refine block_loop (fun _ _ => False) (fun k' a w => ∃ y, loopG (fun rec y => oE (instJ q (mL q none b hb) s0 y) fun s1 => sxF sb C b hb s1 fun e s' => match e with
      | .nm => oE (absJ q s0 s') rec
      | .ex _ => none
      | e => k e s') k' y = some res ∧ Tn ct q (mL q none b hb) s0 y a w) C.K ⟨y0, hres, hin⟩ (fun _ _ h => h.elim) fun k' a w hI => ?_
     obtain ⟨y, hy, hT⟩ := hI
     cases k' with
     | zero => cases hy
     | succ k' =>
      refine ⟨k', rfl, ?_⟩
      simp only [loopG] at hy
      obtain ⟨s1, h3, hy⟩ := oE_some hy
      obtain ⟨h5, h6⟩ := hT s1 h3
      refine sxF_ok sb hsb b hC hrd hb s1 _ res _ a w hy h5 fun e s' a' w' hx hk' hS' => ?_
      cases e with
      | nm =>
       obtain ⟨y', h1, h2⟩ := oE_some hk'
       obtain ⟨ρ, D, Lv, R, hS'⟩ := hS'
       exact ⟨y', h2, fun s1 h3 => join_ok hC.tb hS0 (h6.trans hx fun t ht => ⟨ht, mL_W ht⟩) hS' h1 h3⟩
      | rt => exact hk .rt s' a' w' (hx0.trans (h6.trans (m := mL q none b hb) hx fun t ht => ⟨ht, mL_W ht⟩) fun t ht => ⟨ht, ht⟩) hk' hS'
      | pn x e => exact hk (.pn x e) s' a' w' (hx0.trans (h6.trans (m := mL q none b hb) hx fun t ht => ⟨ht, mL_W ht⟩) fun t ht => ⟨ht, ht⟩) hk' hS'
      | ex j => cases hk'
    | some z =>
     cases rr with
     | false =>
      simp only at hs
      obtain ⟨res, hres, hr⟩ := Option.bind_eq_some_iff.1 hs
      refine block_loop (fun a w => Tn ct z (mL q (some z) b hb) s0 res a w) (fun k' a w => ∃ y, loopG (fun rec y => oE (instJ q (mL q (some z) b hb) s0 y) fun s1 => sxF sb C b hb s1 fun e s' => match e with
       | .nm => oE (absJ q s0 s') rec
       | .ex j => bif Nat.beq i j then oE (absJ z s0 s') some else none
       | _ => none) k' y = some res ∧ Tn ct q (mL q (some z) b hb) s0 y a w) C.K ⟨y0, hres, hin⟩ (fun a w hX => ?_) fun k' a w hI => ?_
      ·obtain ⟨s1, h3, h4⟩ := oE_some hr
       obtain ⟨h5, h6⟩ := hX s1 h3
       exact hk .nm s1 a w (hx0.trans h6 fun t ht => ⟨ht, ht⟩) h4 h5
      ·obtain ⟨y, hy, hT⟩ := hI
       cases k' with
       | zero => cases hy
       | succ k' =>
        refine ⟨k', rfl, ?_⟩
        simp only [loopG] at hy
        obtain ⟨s1, h3, hy⟩ := oE_some hy
        obtain ⟨h5, h6⟩ := hT s1 h3
        refine sxF_ok sb hsb b hC hrd hb s1 _ res _ a w hy h5 fun e s' a' w' hx hk' hS' => ?_
        have hx' : XE (mL q (some z) b hb) s0 s' := h6.trans hx fun t ht => ⟨ht, mL_W ht⟩
        cases e with
        | nm =>
         obtain ⟨y', h1, h2⟩ := oE_some hk'
         obtain ⟨ρ, D, Lv, R, hS'⟩ := hS'
         exact ⟨y', h2, fun s1 h3 => join_ok hC.tb hS0 hx' hS' h1 h3⟩
        | rt => cases hk'
        | pn x e => cases hk'
        | ex j =>
         simp only at hk'
         cases hb' : Nat.beq i j with
         | false => rw [hb'] at hk'; cases hk'
         | true =>
          rw [hb'] at hk'
          obtain ⟨y', h1, h2⟩ := oE_some hk'
          simp only [Option.some.injEq] at h2
          subst h2
          show (if j = i then _ else _)
          rw [if_pos (Nat.eq_of_beq_eq_true hb').symm]
          obtain ⟨ρ, D, Lv, R, hS'⟩ := hS'
          exact fun s1 h3 => join_ok hC.tb hS0 hx' hS' h1 h3
     | true =>
      simp only at hs
      obtain ⟨res, hres, hr⟩ := Option.bind_eq_some_iff.1 hs
      refine block_loop (fun a w => ∃ y, res = .inr y ∧ Tn ct z (mL q (some z) b hb) s0 y a w) (fun k' a w => ∃ y, loopG (fun rec y => oE (instJ q (mL q (some z) b hb) s0 y) fun s1 => sxF sb C b hb s1 fun e s' => match e with
       | .nm => oE (absJ q s0 s') rec
       | .ex j => bif Nat.beq i j then oE (absJ z s0 s') (fun y => some (Sum.inr y)) else none
       | e => oE (k e s') (fun y => some (Sum.inl y))) k' y = some res ∧ Tn ct q (mL q (some z) b hb) s0 y a w) C.K ⟨y0, hres, hin⟩ (fun a w hX => ?_) fun k' a w hI => ?_
      ·obtain ⟨y, e, hX⟩ := hX
       subst e
       obtain ⟨s1, h3, h4⟩ := oE_some hr
       obtain ⟨h5, h6⟩ := hX s1 h3
       exact hk .nm s1 a w (hx0.trans h6 fun t ht => ⟨ht, ht⟩) h4 h5
      ·obtain ⟨y, hy, hT⟩ := hI
       cases k' with
       | zero => cases hy
       | succ k' =>
        refine ⟨k', rfl, ?_⟩
        simp only [loopG] at hy
        obtain ⟨s1, h3, hy⟩ := oE_some hy
        obtain ⟨h5, h6⟩ := hT s1 h3
        refine sxF_ok sb hsb b hC hrd hb s1 _ res _ a w hy h5 fun e s' a' w' hx hk' hS' => ?_
        have hx' : XE (mL q (some z) b hb) s0 s' := h6.trans hx fun t ht => ⟨ht, mL_W ht⟩
        cases e with
        | nm =>
         obtain ⟨y', h1, h2⟩ := oE_some hk'
         obtain ⟨ρ, D, Lv, R, hS'⟩ := hS'
         exact ⟨y', h2, fun s1 h3 => join_ok hC.tb hS0 hx' hS' h1 h3⟩
        | rt =>
         obtain ⟨y', h1, h2⟩ := oE_some hk'
         simp only [Option.some.injEq] at h2
         subst h2
         simp only [Option.some.injEq] at hr
         subst hr
         exact hk .rt s' a' w' (hx0.trans hx' fun t ht => ⟨ht, ht⟩) h1 hS'
        | pn x e =>
         obtain ⟨y', h1, h2⟩ := oE_some hk'
         simp only [Option.some.injEq] at h2
         subst h2
         simp only [Option.some.injEq] at hr
         subst hr
         exact hk (.pn x e) s' a' w' (hx0.trans hx' fun t ht => ⟨ht, ht⟩) h1 hS'
        | ex j =>
         simp only at hk'
         cases hb' : Nat.beq i j with
         | false => rw [hb'] at hk'; cases hk'
         | true =>
          rw [hb'] at hk'
          obtain ⟨y', h1, h2⟩ := oE_some hk'
          simp only [Option.some.injEq] at h2
          subst h2
          show (if j = i then _ else _)
          rw [if_pos (Nat.eq_of_beq_eq_true hb').symm]
          obtain ⟨ρ, D, Lv, R, hS'⟩ := hS'
          exact ⟨y', rfl, fun s1 h3 => join_ok hC.tb hS0 hx' hS' h1 h3⟩
  | _ => cases h <;> exact gen hs
 | .loop b, C, ct, rd, hC, hrd, h, s, _, k, r, Q, a, w, hs, hS, hk => by cases h <;> cases hs
 | .rangeFunc gop ps as bd, C, ct, rd, hC, hrd, h, s, _, k, r, Q, a, w, hs, hS, hk => range_ok sb hsb hC hrd (sxF_ok sb hsb as) (sxF_ok sb hsb bd) hs hS hk
 | .scope _, C, ct, rd, hC, hrd, h, s, _, k, r, Q, a, w, hs, hS, hk => by cases h <;> cases hs
 | .label _, C, ct, rd, hC, hrd, h, s, _, k, r, Q, a, w, hs, hS, hk => by cases h <;> cases hs
 | .goto _, C, ct, rd, hC, hrd, h, s, _, k, r, Q, a, w, hs, hS, hk => by cases h <;> cases hs
 | .refuse _, C, ct, rd, hC, hrd, h, s, _, k, r, Q, a, w, hs, hS, hk => by cases h <;> cases hs
theorem sx0_ok : ∀ c, CdOk (sx0 (T := T)) c := fun c => sxF_ok _ (fun _ _ _ _ _ _ _ _ _ _ _ _ _ _ hs => by cases hs) c
theorem sx_ok (hC : CxAll C ct) (c : Code) (h : Hn) (s : SS T) {α : Type} (k : Ke → SS T → Option α) (r : α) (Q : Exit → Act → World → Prop) (a : Act) (w : World) (hs : sx C c h s k = some r) (hS : RS ct s a w)
  (hk : ∀ e s' a' w', XE (Wh c h) s s' → k e s' = some r → RS ct s' a' w' → Q (exK e) a' w') : c.wpIn (Fw none) 0 C.P Q a w := sxF_ok sx0 sx0_ok c hC (.inl rfl) h s k r Q a w hs hS hk
end
end Go.Sep
