/-
 Symbolic execution: calls.
-/
import Derived.Test.YtomndohdnfebgaaGreatDoorSxJ
namespace Go.Sep
section
variable {T : Tb} {C : Cx T} {ct : Ct} {ρ : Rho} {D : Snap} {Lv R : List Blk} {s : SS T} {a : Act} {w : World}
variable {rd : Option Nat} {ops : Array Oper} {Q : Exit → Act → World → Prop} {i : Nat} {o : Oper} {d : Tmp} {Cn : Act → World → Prop} {α : Type} {k : SS T → Option α} {r : α}
theorem evL_app {C : Cx T} (hC : CxOk C ct) (h : RSx ct ρ D Lv R s a w) {l2 : SV T} {v2 : List Value} (h2 : RX ρ D l2 true v2) : ∀ {xs : List Operand} {ts : List TypeId} {l : SV T}, evL C s xs ts = some l → ∃ vs, evalArgs (EvA a) xs = some vs ∧ RX ρ D (appL l l2) true (vs ++ v2)
 | [], _, l, hx => by simp only [evL, Option.some.injEq] at hx; subst hx; exact ⟨[], rfl, h2⟩
 | x :: xs, ts, l, hx => by
  unfold evL at hx
  split at hx
  ·rename_i u l' h1 h2'
   simp only [Option.some.injEq] at hx
   subst hx
   obtain ⟨v, e1, r1⟩ := evS_ok hC h h1
   obtain ⟨vs, e2, r2⟩ := evL_app hC h h2 h2'
   exact ⟨v :: vs, by simp only [evalArgs, e1, e2], v, vs ++ v2, rfl, r1, r2⟩
  ·cases hx
theorem lookA_of_mem {β : Type} {x : Nat × β} : ∀ {L : List (Nat × β)}, x ∈ L → (L.map (·.1)).Nodup → lookA L x.1 = some x.2
 | [], h, _ => by cases h
 | e :: L, h, hn => by
  simp only [List.map_cons, List.nodup_cons] at hn
  rcases List.mem_cons.1 h with rfl | h1
  ·simp [lookA]
  ·have : Nat.beq e.1 x.1 = false := by
    cases hb : Nat.beq e.1 x.1 with
    | true => exact absurd (List.mem_map.2 ⟨x, h1, (Nat.eq_of_beq_eq_true hb).symm⟩) hn.1
    | false => rfl
   have h2 := lookA_of_mem h1 hn.2
   obtain ⟨e1, e2⟩ := e
   simp only [lookA, this, cond_false]
   exact h2
/-! ### slices under other names -/
def Ren (O O' : OwT T) : List (Nat × Pl) → List (Nat × Pl) → Prop
 | [], ys => ys = []
 | x :: xs, ys => ∃ y ys', ys = y :: ys' ∧ x.2 = y.2 ∧ (∀ t e f l A cap, x.2 = .own A cap l.length → O x.1 t e f l A cap → O' y.1 t e f l A cap) ∧ Ren O O' xs ys'
theorem Ren_app {O O' : OwT T} : ∀ {x1 x2 ys : List (Nat × Pl)}, Ren O O' (x1 ++ x2) ys → ∃ y1 y2, ys = y1 ++ y2 ∧ Ren O O' x1 y1 ∧ Ren O O' x2 y2
 | [], x2, ys, h => ⟨[], ys, rfl, rfl, h⟩
 | x :: x1, x2, ys, ⟨y, ys', e, h1, h2, h3⟩ => by
  obtain ⟨y1, y2, e2, h4, h5⟩ := Ren_app h3
  exact ⟨y :: y1, y2, by rw [e, e2]; rfl, ⟨y, y1, rfl, h1, h2, h4⟩, h5⟩
theorem PR_ren {β : Nat → Option Nat} {D : Snap} {O O' : OwT T} : ∀ (p : Pt) (md : Bool) (ds : List (Dy T)) (os os' : List (Nat × Pl)) (c : List Value), PR β D O p md ds os c → Ren O O' os os' → PR β D O' p md ds os' c := by
 intro p
 induction p with
 | dt t => rintro md ds os os' c ⟨x, h1, rfl, h3⟩ hr; exact ⟨x, h1, hr, h3⟩
 | own t e f =>
  rintro md ds os os' c ⟨xs, o, A, cap, h1, rfl, h3, h4⟩ ⟨y, ys', rfl, h5, h6, h7⟩
  have h7 : ys' = [] := h7
  subst h7
  obtain ⟨y1, y2⟩ := y
  exact ⟨xs, y1, A, cap, h1, by rw [← (show _ = y2 from h5)], h3, h6 _ _ _ _ _ _ rfl h4⟩
 | agg l ih => exact fun md ds os os' c h hr => ih false ds os os' c h hr
 | nl => rintro md ds os os' c ⟨h1, rfl, h3⟩ hr; exact ⟨h1, hr, h3⟩
 | cs h l ih1 ih2 =>
  intro md ds os os' c hc hr
  cases md with
  | false =>
   obtain ⟨d1, d2, o1, o2, c1, c2, e1, rfl, e3, h1, h2⟩ := hc
   obtain ⟨y1, y2, rfl, r1, r2⟩ := Ren_app hr
   exact ⟨d1, d2, y1, y2, c1, c2, e1, rfl, e3, ih1 _ _ _ _ _ h1 r1, ih2 _ _ _ _ _ h2 r2⟩
  | true =>
   obtain ⟨d1, d2, o1, o2, v, c2, e1, rfl, e3, h1, h2⟩ := hc
   obtain ⟨y1, y2, rfl, r1, r2⟩ := Ren_app hr
   refine ⟨d1, d2, y1, y2, v, c2, e1, rfl, e3, ?_, ih2 _ _ _ _ _ h2 r2⟩
   cases ha : agP h with
   | true => rw [ha] at h1; obtain ⟨c1, h3, h4⟩ := h1; exact ⟨c1, ih1 _ _ _ _ _ h3 r1, h4⟩
   | false => rw [ha] at h1; exact ih1 _ _ _ _ _ h1 r1
 | ptr b off => rintro md ds os os' c ⟨h1, rfl, h3⟩ hr; exact ⟨h1, hr, h3⟩
 | fn f l ih => rintro md ds os os' c ⟨vs, h1, h2⟩ hr; exact ⟨vs, ih _ _ _ _ _ h1 hr, h2⟩
 | raw v => rintro md ds os os' c ⟨h1, rfl, h3⟩ hr; exact ⟨h1, hr, h3⟩
 | nils => rintro md ds os os' c ⟨h1, rfl, h3⟩ hr; exact ⟨h1, hr, h3⟩
 | kb b => rintro md ds os os' c ⟨h1, rfl, h3⟩ hr; exact ⟨h1, hr, h3⟩
theorem PRB_ren {β : Nat → Option Nat} {D : Snap} {O O' : OwT T} : ∀ {bs : List (TypeId × Pt)} {i : Nat} {ds : List (Dy T)} {os os' : List (Nat × Pl)} {Bs : List Blk}, PRB β D O bs i ds os Bs → Ren O O' os os' → PRB β D O' bs i ds os' Bs
 | [], _, _, _, _, _, ⟨h1, h2, h3⟩, hr => by subst h2; exact ⟨h1, hr, h3⟩
 | _ :: _, _, _, _, _, _, ⟨d1, d2, o1, o2, n, c, Bs', e1, e2, h1, e3, h2, h3⟩, hr => by
  subst e2
  obtain ⟨y1, y2, rfl, r1, r2⟩ := Ren_app hr
  exact ⟨d1, d2, y1, y2, n, c, Bs', e1, rfl, h1, e3, PR_ren _ _ _ _ _ _ h2 r1, PRB_ren h3 r2⟩
/-- names 0, 1, .. from j on -/
def idx : Nat → List (Nat × Pl) → List (Nat × Pl)
 | _, [] => []
 | j, x :: l => (j, x.2) :: idx (j + 1) l
theorem idx_map : ∀ (j : Nat) (l : List (Nat × Pl)), (idx j l).map (·.1) = List.range' j l.length
 | _, [] => rfl
 | j, x :: l => by simp [idx, idx_map (j + 1) l, List.range'_succ]
theorem Ren_idx {O O' : OwT T} : ∀ (os : List (Nat × Pl)) (j : Nat), (∀ k x, os[k]? = some x → ∀ t e f l A cap, x.2 = .own A cap l.length → O x.1 t e f l A cap → O' (j + k) t e f l A cap) → Ren O O' os (idx j os)
 | [], _, _ => rfl
 | x :: os, j, h => ⟨(j, x.2), idx (j + 1) os, rfl, rfl, fun t e f l A cap e1 => h 0 x rfl t e f l A cap e1, Ren_idx os (j + 1) fun k y hy => by
   rw [show j + 1 + k = j + (k + 1) by omega]
   exact h (k + 1) y (by simpa using hy)⟩
theorem OwnX.of {f f0 : Bool} {α : Type} {K : Kd α} {E : TypeId} {D : Snap} {A : Option Addr} {cap : Nat} {l : List α} {q : Blk} (h : OwnX f0 K E D A cap l q) (hf : (!f || f0) = true) : OwnX f K E D A cap l q := by
 cases f with
 | false => exact h.weak
 | true => cases f0 with
  | true => exact h
  | false => cases hf
/-! ### lists of blocks, again -/
theorem RLs_app : ∀ {L L' : List (Nat × Nat × SB T)} {Ls Ls' : List Blk}, RLs ρ D L Ls → RLs ρ D L' Ls' → RLs ρ D (L ++ L') (Ls ++ Ls')
 | [], _, _, _, h, h' => by have h : _ = _ := h; subst h; exact h'
 | _ :: _, _, _, _, ⟨q, Ls', e, h1, h2⟩, h' => by subst e; exact ⟨q, _, rfl, h1, RLs_app h2 h'⟩
theorem RLs_rev : ∀ {L : List (Nat × Nat × SB T)} {Ls : List Blk}, RLs ρ D L Ls → RLs ρ D L.reverse Ls.reverse
 | [], _, h => by have h : _ = _ := h; subst h; exact rfl
 | e :: L, _, ⟨q, Ls', e1, h1, h2⟩ => by
  subst e1
  rw [List.reverse_cons, List.reverse_cons]
  exact RLs_app (RLs_rev h2) ⟨q, [], rfl, h1, rfl⟩
theorem OEs_RLs {Qs : List Blk} : ∀ {n j : Nat} {os : List (Nat × Pl)} {es : List (Nat × Nat × SB T)}, OEs (OwQ Qs D) n os es → os.map (·.1) = List.range' j os.length → j + os.length = Qs.length → (∀ k x, os[k]? = some x → ρ (n + k) = some x.2) → RLs ρ D es (Qs.drop j)
 | n, j, [], es, h, _, hl, _ => by
  have h : es = [] := h
  subst h
  exact List.drop_of_length_le (by simp at hl; omega)
 | n, j, x :: os, es, ⟨t, e, f, xs, A, cap, es', h1, h2, h3, h4⟩, hm, hl, hr => by
  subst h1
  simp only [List.map_cons, List.length_cons, List.range'_succ, List.cons.injEq] at hm
  obtain ⟨q, hq, hO⟩ := h3
  rw [hm.1] at hq
  have hd : Qs.drop j = q :: Qs.drop (j + 1) := by
   rw [List.drop_eq_getElem_cons (by simp at hl; omega)]
   congr 1
   rw [List.getElem?_eq_getElem (by simp at hl; omega)] at hq
   exact Option.some.inj hq
  refine ⟨q, Qs.drop (j + 1), hd, ⟨A, cap, by have h5 := hr 0 x rfl; rw [h2] at h5; exact h5, hO⟩, OEs_RLs h4 hm.2 (by simp at hl; omega) fun k y hy => ?_⟩
  rw [show n + 1 + k = n + (k + 1) by omega]
  exact hr (k + 1) y (by simpa using hy)
theorem OEs_ids {O : OwT T} : ∀ {n : Nat} {os : List (Nat × Pl)} {es : List (Nat × Nat × SB T)}, OEs O n os es → es.map (·.1) = List.range' n os.length ∧ ∀ e ∈ es, e.2.1 = e.1
 | n, [], es, h => by have h : es = [] := h; subst h; exact ⟨rfl, fun e he => by cases he⟩
 | n, x :: os, es, ⟨t, e, f, xs, A, cap, es', h1, h2, h3, h4⟩ => by
  subst h1
  obtain ⟨g1, g2⟩ := OEs_ids h4
  refine ⟨by simp [g1, List.range'_succ], fun e he => ?_⟩
  rcases List.mem_cons.1 he with rfl | he
  ·rfl
  ·exact g2 e he
theorem InsR.trans {O : OwT T} {m m1 m2 : Im T} {r1 r2 : List (Dy T)} {o1 o2 : List (Nat × Pl)} (i1 : InsR O m m1 r1 o1) (i2 : InsR O m1 m2 r2 o2) : InsR O m m2 r2 (o1 ++ o2) := by
 obtain ⟨e1, g1, g2⟩ := i1.L
 obtain ⟨e2, g3, g4⟩ := i2.L
 refine ⟨i2.dy, by rw [i2.nx, i1.nx]; simp; omega, e1 ++ e2, by rw [g3, g1]; simp, OEs_app g2 ?_⟩
 rw [← i1.nx]; exact g4
theorem newE_ok {β : Nat → Option Nat} {O : OwT T} {bd : List (Nat × Nat)} {nv : Nat} : ∀ (bs : List (TypeId × Pt)) (i : Nat) (m m' : Im T) (L : List (Nat × Nat × SB T)) (ds : List (Dy T)) (os : List (Nat × Pl)) (Bs : List Blk) (rest : List (Dy T)), newE bd nv bs i m = some (L, m') → m.dy = ds ++ rest → PRB β D O bs i ds os Bs →
  InsR O m m' rest os ∧ (∀ e ∈ L, e.2.1 = nv) ∧ (L.map (fun e => some e.1) = (List.range' i bs.length).map (fun b => lookA bd b)) ∧ ∀ ρ' : Rho, (∀ b n i, β b = some n → lookA bd b = some i → ρ' i = some (.blk n)) → (∀ k x, os[k]? = some x → ρ' (m.nx + k) = some x.2) → RLs ρ' D L Bs
 | [], i, m, m', L, ds, os, Bs, rest, h, hm, ⟨e1, e2, e3⟩ => by
  subst e1 e2 e3
  simp only [newE, Option.some.injEq, Prod.mk.injEq] at h
  obtain ⟨rfl, rfl⟩ := h
  exact ⟨⟨hm, rfl, [], rfl, rfl⟩, fun e he => (by cases he), rfl, fun _ _ _ => rfl⟩
 | (t, p) :: bs, i, m, m', L, ds, os, Bs, rest, h, hm, ⟨d1, d2, o1, o2, n, c, Bs', e1, e2, h1, e3, h2, h3⟩ => by
  subst e1 e2 e3
  simp only [newE] at h
  split at h
  ·rename_i id v m1 hid hi
   split at h
   ·rename_i L1 m2 hn
    simp only [Option.some.injEq, Prod.mk.injEq] at h
    obtain ⟨rfl, rfl⟩ := h
    obtain ⟨_, i1, r1⟩ := inst_ok p false m m1 v d1 o1 c (d2 ++ rest) hi (by rw [hm]; simp) h2
    obtain ⟨i2, v2, l2, r2⟩ := newE_ok bs (i + 1) m1 m2 L1 d2 o2 Bs' rest hn i1.dy h3
    refine ⟨i1.trans i2, fun e he => ?_, by simp [l2, List.range'_succ, hid], fun ρ' hb ho => ⟨_, Bs', rfl, ⟨n, c, hb _ _ _ h1 hid, r1 ρ' hb fun k x hx => ho k x (by rw [List.getElem?_append_left (List.getElem?_eq_some_iff.1 hx).1]; exact hx), rfl⟩, r2 ρ' hb fun k x hx => ?_⟩⟩
    ·rcases List.mem_cons.1 he with rfl | he
     ·rfl
     ·exact v2 e he
    ·rw [i1.nx, Nat.add_assoc]
     exact ho _ x (by rw [List.getElem?_append_right (Nat.le_add_right _ _), Nat.add_sub_cancel_left]; exact hx)
   ·cases h
  ·cases h
theorem outE_ok {β : Nat → Option Nat} {O : OwT T} {bd : List (Nat × Nat)} {nv : Nat} {D0 : Snap} (hd : D0.le D) : ∀ (bs : List (TypeId × Pt)) (ps : List (Option Pt)) (i : Nat) (es : List (Nat × Nat × SB T)) (m m' : Im T) (L : List (Nat × Nat × SB T)) (ds : List (Dy T)) (os : List (Nat × Pl)) (Bs Bs' : List Blk) (rest : List (Dy T)), outE bd nv es ps m = some (L, m') → m.dy = ds ++ rest → PRO β D O bs ps i ds os Bs Bs' → RLs ρ D0 es Bs →
  (∀ k tp, bs[k]? = some tp → ∀ q, Bs[k]? = some q → ∃ n c, q = bx n tp.1 c ∧ ∀ n', β (i + k) = some n' → n' = n) →
  InsR O m m' rest os ∧ L.map (·.1) = es.map (·.1) ∧ (∀ e ∈ L, e.2.1 = nv ∨ (e ∈ es ∧ ∃ q, RBk ρ D0 e.1 e.2.2 q ∧ q ∈ Bs ∧ q ∈ Bs')) ∧ ∀ ρ' : Rho, ρ.le ρ' → (∀ b n i, β b = some n → lookA bd b = some i → ρ' i = some (.blk n)) → (∀ k x, os[k]? = some x → ρ' (m.nx + k) = some x.2) → RLs ρ' D L Bs'
 | [], [], i, es, m, m', L, ds, os, Bs, Bs', rest, h, hm, ⟨e1, e2, e3, e4⟩, hL, _ => by
  subst e1 e2 e3 e4
  cases es with
  | nil =>
   simp only [outE, Option.some.injEq, Prod.mk.injEq] at h
   obtain ⟨rfl, rfl⟩ := h
   exact ⟨⟨hm, rfl, [], rfl, rfl⟩, rfl, fun e he => (by cases he), fun _ _ _ _ => rfl⟩
  | cons e es => obtain ⟨q, _, e5, _⟩ := hL; cases e5
 | tp :: bs, none :: ps, i, es, m, m', L, ds, os, Bs, Bs', rest, h, hm, ⟨q, B1, B1', e1, e2, h1⟩, hL, hk => by
  subst e1 e2
  cases es with
  | nil => have hL : _ = _ := hL; cases hL
  | cons e es =>
   obtain ⟨q', Ls', e3, h2, h3⟩ := hL
   cases e3
   simp only [outE] at h
   split at h
   ·rename_i L1 m1 ho
    simp only [Option.some.injEq, Prod.mk.injEq] at h
    obtain ⟨rfl, rfl⟩ := h
    obtain ⟨i1, g1, g2, g3⟩ := outE_ok hd bs ps (i + 1) es m m1 L1 ds os B1 B1' rest ho hm h1 h3 (fun k tp ht q hq => by
     obtain ⟨n, c, k1, k2⟩ := hk (k + 1) tp (by simpa using ht) q (by simpa using hq)
     exact ⟨n, c, k1, fun n' hn' => k2 n' (by rw [show i + (k + 1) = i + 1 + k by omega]; exact hn')⟩)
    refine ⟨i1, by simp [g1], fun x hx => ?_, fun ρ' hr hb ho => ⟨q, B1', rfl, RBk_mono hr hd h2, g3 ρ' hr hb ho⟩⟩
    rcases List.mem_cons.1 hx with rfl | hx
    ·exact .inr ⟨List.mem_cons_self, q, h2, List.mem_cons_self, List.mem_cons_self⟩
    ·rcases g2 x hx with h | ⟨h, q', k1, k2, k3⟩
     ·exact .inl h
     ·exact .inr ⟨List.mem_cons_of_mem _ h, q', k1, List.mem_cons_of_mem _ k2, List.mem_cons_of_mem _ k3⟩
   ·cases h
 | tp :: bs, some p :: ps, i, es, m, m', L, ds, os, Bs, Bs', rest, h, hm, ⟨d1, d2, o1, o2, n, c, q, B1, B1', e1, e2, h1, e3, e4, h2, h3⟩, hL, hk => by
  subst e1 e2 e3 e4
  cases es with
  | nil => have hL : _ = _ := hL; cases hL
  | cons e es =>
   obtain ⟨q', Ls', e5, k1, k2⟩ := hL
   cases e5
   obtain ⟨id, ver, b⟩ := e
   cases b with
   | own t' e' xs' f' => simp only [outE, reduceCtorEq] at h
   | lnt t' xs' => simp only [outE, reduceCtorEq] at h
   | var t v0 =>
    simp only [outE] at h
    split at h
    ·rename_i v m1 hi
     split at h
     ·rename_i L1 m2 ho
      simp only [Option.some.injEq, Prod.mk.injEq] at h
      obtain ⟨rfl, rfl⟩ := h
      obtain ⟨_, i1, r1⟩ := inst_ok p false m m1 v d1 o1 c (d2 ++ rest) hi (by rw [hm]; simp) h2
      obtain ⟨i2, g1, g2, g3⟩ := outE_ok hd bs ps (i + 1) es m1 m2 L1 d2 o2 B1 B1' rest ho i1.dy h3 k2 (fun k tp ht q hq => by
       obtain ⟨n, c, k1, k2⟩ := hk (k + 1) tp (by simpa using ht) q (by simpa using hq)
       exact ⟨n, c, k1, fun n' hn' => k2 n' (by rw [show i + (k + 1) = i + 1 + k by omega]; exact hn')⟩)
      obtain ⟨n0, c0, z1, z2⟩ := hk 0 tp rfl q rfl
      have hn := z2 n h1
      subst hn
      obtain ⟨mm, cc, y1, y2, y3⟩ := k1
      rw [z1] at y3
      have y4 : n = mm := by cases y3; rfl
      have y5 : tp.1 = t := by cases y3; rfl
      subst y4 y5
      refine ⟨i1.trans i2, by simp [g1], fun x hx => ?_, fun ρ' hr hb ho => ⟨_, B1', rfl, ⟨n, c, hr _ _ y1, r1 ρ' hb fun k x hx => ho k x (by rw [List.getElem?_append_left (List.getElem?_eq_some_iff.1 hx).1]; exact hx), rfl⟩, g3 ρ' hr hb fun k x hx => ?_⟩⟩
      ·rcases List.mem_cons.1 hx with rfl | hx
       ·exact .inl rfl
       ·rcases g2 x hx with h | ⟨h, q', k1, k2, k3⟩
        ·exact .inl h
        ·exact .inr ⟨List.mem_cons_of_mem _ h, q', k1, List.mem_cons_of_mem _ k2, List.mem_cons_of_mem _ k3⟩
      ·rw [i1.nx, Nat.add_assoc]
       exact ho _ x (by rw [List.getElem?_append_right (Nat.le_add_right _ _), Nat.add_sub_cancel_left]; exact hx)
     ·cases h
    ·cases h
 | [], _ :: _, _, _, _, _, _, _, _, _, _, _, _, _, h, _, _ => h.elim
 | _ :: _, [], _, _, _, _, _, _, _, _, _, _, _, _, h, _, _ => h.elim
end
end Go.Sep
