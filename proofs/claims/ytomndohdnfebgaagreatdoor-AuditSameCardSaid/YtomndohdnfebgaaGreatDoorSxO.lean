/-
 Symbolic execution: a state is taken back to a pattern, and made from it again.
-/
import Derived.Test.YtomndohdnfebgaaGreatDoorSxN
namespace Go.Sep
section
variable {T : Tb} {C : Cx T} {ct : Ct} {ρ : Rho} {D : Snap} {Lv R : List Blk} {s : SS T} {a : Act} {w : World}
theorem delBs_sub : ∀ {is : List Nat} {L : List (Nat × Nat × SB T)}, (delBs is L).Sublist L
 | [], _ => List.Sublist.refl _
 | i :: is, L => (delBs_sub (is := is) (L := delB i L)).trans delB_sub
theorem tmIn_ok {m : Nat} : ∀ {l : List (Nat × Pt)}, tmIn m l = true → ∀ t ∈ l.map (·.1), m.testBit t = true
 | [], _, t, ht => by cases ht
 | (x, p) :: l, h, t, ht => by
  simp only [tmIn, Bool.and_eq_true] at h
  simp only [List.map_cons, List.mem_cons] at ht
  rcases ht with rfl | ht
  ·exact h.1
  ·exact tmIn_ok h.2 t ht
theorem lookA_filE {m : Nat} {t : Nat} : ∀ {E : List (Nat × SV T)}, lookA (filE m E) t = if m.testBit t = true then none else lookA E t
 | [] => by simp [filE, lookA]
 | (j, v) :: E => by
  simp only [filE]
  cases hj : m.testBit j with
  | true =>
   simp only [cond_true, lookA]
   rw [lookA_filE]
   cases hb : Nat.beq j t with
   | true => have := Nat.eq_of_beq_eq_true hb; subst this; simp [hj]
   | false => rfl
  | false =>
   simp only [cond_false, lookA]
   rw [lookA_filE]
   cases hb : Nat.beq j t with
   | true => have := Nat.eq_of_beq_eq_true hb; subst this; simp [hj]
   | false => rfl
theorem map_inj_on {α β : Type} {f : α → β} : ∀ {l l' : List α}, l.map f = l'.map f → (∀ x ∈ l, ∀ y ∈ l', f x = f y → x = y) → l = l'
 | [], [], _, _ => rfl
 | [], _ :: _, h, _ => by cases h
 | _ :: _, [], h, _ => by cases h
 | x :: l, y :: l', h, hi => by
  simp only [List.map_cons, List.cons.injEq] at h
  rw [hi x List.mem_cons_self y List.mem_cons_self h.1, map_inj_on h.2 fun x hx y hy => hi x (List.mem_cons_of_mem _ hx) y (List.mem_cons_of_mem _ hy)]
theorem RLs_split : ∀ {L L' : List (Nat × Nat × SB T)} {Ls : List Blk}, RLs ρ D (L ++ L') Ls → ∃ X Y, Ls = X ++ Y ∧ RLs ρ D L X ∧ RLs ρ D L' Y
 | [], _, Ls, h => ⟨[], Ls, rfl, rfl, h⟩
 | _ :: _, _, _, ⟨q, Ls', e, h1, h2⟩ => by
  obtain ⟨X, Y, e2, h3, h4⟩ := RLs_split h2
  exact ⟨q :: X, Y, by rw [e, e2]; rfl, ⟨q, X, rfl, h1, h3⟩, h4⟩
theorem ptrsV_ok {ρ : Rho} {D : Snap} : ∀ (v : SV T) (m : Bool) (c : List Value), RX ρ D v m c → ∀ i ∈ ptrsV v, ρ i ≠ none := by
 intro v
 induction v with
 | ptr b off => rintro m c ⟨n, h, _⟩ i hi; simp only [ptrsV, List.mem_singleton] at hi; subst hi; rw [h]; simp
 | agg l ih => exact fun m c h i hi => ih false c h i hi
 | tup l ih => exact fun m c ⟨vs, h, _⟩ i hi => ih true vs h i hi
 | fn f l ih => exact fun m c ⟨vs, h, _⟩ i hi => ih true vs h i hi
 | cs h t ih1 ih2 =>
  intro m c hc i hi
  simp only [ptrsV, List.mem_append] at hi
  cases m with
  | false =>
   obtain ⟨c1, c2, _, h1, h2⟩ := hc
   rcases hi with hi | hi
   ·exact ih1 _ _ h1 i hi
   ·exact ih2 _ _ h2 i hi
  | true =>
   obtain ⟨v, c2, _, h1, h2⟩ := hc
   rcases hi with hi | hi
   ·cases ha : agS h with
    | true => rw [ha] at h1; obtain ⟨c1, h3, _⟩ := h1; exact ih1 _ _ h3 i hi
    | false => rw [ha] at h1; exact ih1 _ _ h1 i hi
   ·exact ih2 _ _ h2 i hi
 | _ => intro m c _ i hi; cases hi
theorem nthN_mem {i : Nat} : ∀ {l : List Nat} {n : Nat}, nthN l n = some i → i ∈ l
 | x :: l, 0, h => by simp only [nthN, Option.some.injEq] at h; subst h; exact List.mem_cons_self
 | x :: l, n + 1, h => List.mem_cons_of_mem _ (nthN_mem h)
theorem blk1_ok (h : RSx ct ρ D Lv R s a w) {t j : Nat} (hj : blk1 s t = some j) : ρ j ≠ none := by
 unfold blk1 at hj
 cases hb : Nat.blt t 1000000 with
 | true =>
  rw [hb] at hj
  simp only [cond_true] at hj
  split at hj
  ·rename_i k off hk
   simp only [Option.some.injEq] at hj
   subst hj
   obtain ⟨v, _, h2⟩ := h.e _ _ hk
   obtain ⟨n, h3, _⟩ := RV_one' rfl h2
   rw [h3]; simp
  ·cases hj
 | false =>
  rw [hb] at hj
  simp only [cond_false] at hj
  split at hj
  ·rename_i sv hk
   obtain ⟨v, _, h2⟩ := h.e _ _ hk
   unfold RV at h2
   cases ha : agS sv with
   | true => rw [ha] at h2; obtain ⟨c1, h3, _⟩ := h2; exact ptrsV_ok sv false c1 h3 j (nthN_mem hj)
   | false => rw [ha] at h2; exact ptrsV_ok sv false [v] h2 j (nthN_mem hj)
  ·cases hj
theorem blkOf_ok (h : RSx ct ρ D Lv R s a w) {t j : Nat} (hj : blkOf s t = some j) : ρ j ≠ none := by
 unfold blkOf at hj
 cases hb0 : Nat.ble 1000000000000 t with
 | true =>
  rw [hb0] at hj
  simp only [cond_true] at hj
  split at hj
  ·rename_i v hv
   have h1 := h.o _ _ hv j (nthN_mem hj)
   intro h2
   cases hr : ct.rb j with
   | none => exact h1 hr
   | some p => rw [h.rb _ _ hr] at h2; cases h2
  ·cases hj
 | false =>
 rw [hb0] at hj
 simp only [cond_false] at hj
 cases hb : Nat.blt t 1000000000 with
 | true => rw [hb] at hj; exact blk1_ok h hj
 | false =>
  rw [hb] at hj
  simp only [cond_false] at hj
  split at hj
  ·split at hj
   ·rename_i hl
    obtain ⟨X, q, Y, _, ⟨m, c, _, h3, _⟩, _⟩ := RLs_at h.l hl
    exact ptrsV_ok _ false c h3 j (nthN_mem hj)
   ·cases hj
  ·cases hj
theorem ptBd_ok (h : RSx ct ρ D Lv R s a w) : ∀ {ts : List Nat} {b i : Nat}, lookA (ptBd s ts) b = some i → ρ i ≠ none
 | [], _, _, h1 => by cases h1
 | t :: ts, b, i, h1 => by
  simp only [ptBd] at h1
  split at h1
  ·rename_i j hj
   simp only [lookA] at h1
   cases hb : Nat.beq t b with
   | true =>
    rw [hb] at h1
    simp only [cond_true, Option.some.injEq] at h1
    subst h1
    exact blkOf_ok h hj
   | false => rw [hb] at h1; exact ptBd_ok h h1
  ·exact ptBd_ok h h1
/-- where ways meet: the state may be thrown away but for what the pattern says -/
theorem join_ok (hT : TbOk T) {ρ0 : Rho} {D0 : Snap} {Lv0 R0 : List Blk} {s0 : SS T} {a0 : Act} {w0' : World} {q : Pj} {mask : Nat} {s2 : SS T} {y : TU T.ty q.ty}
  (h0 : RSx ct ρ0 D0 Lv0 R0 s0 a0 w0') (hx : XE mask s0 s) (h : RSx ct ρ D Lv R s a w) (ha : absJ q s0 s = some y) (hi : instJ q mask s0 y = some s2) : RS ct s2 a w ∧ XE mask s0 s2 := by
 unfold absJ at ha
 split at ha
 ·rename_i m1 hm1
  split at ha
  ·rename_i m2 bw hm2
   split at ha
   ·rename_i L1 hL1
    split at ha
    ·rename_i pk hpick
     obtain ⟨es, L2⟩ := pk
     cases hmd : Nat.beq m2.s.md.m s0.md.m with
     | false => rw [hmd] at ha; cases ha
     | true =>
     rw [hmd] at ha
     simp only [cond_true] at ha
     unfold instJ at hi
     cases htm : tmIn mask q.tm with
     | false => rw [htm] at hi; cases hi
     | true =>
     rw [htm] at hi
     simp only [cond_true] at hi
     split at hi
     ·rename_i E1 i1 hi1
      split at hi
      ·rename_i N1 i2 hi2
       simp only [Option.some.injEq] at hi
       -- matching
       obtain ⟨ρ1, D1, Lv1, dn1, on1, os1, M1, E1', P1⟩ := matT_ok hT q.tm _ m1 ρ D Lv hm1 h
       obtain ⟨ρ2, D2, Lv2, dn2, on2, os2, Bs, M2, E2, P2, B2⟩ := matC_ok hT q.bl m1 m2 bw ρ1 D1 Lv1 hm2 M1.rs
       have H := M2.rs
       have hext : Ext s m2.s := M1.ext.trans M2.ext
       have hdy : m2.dy.reverse = dn1 ++ dn2 := by rw [M2.dy, M1.dy]; simp
       have how : m2.ow.reverse = on1 ++ on2 := by rw [M2.ow, M1.ow]; simp
       rw [hdy] at ha
       rw [how] at hL1
       have hpu := toU_ofU ha
       have hr2 : ρ.le ρ2 := M1.rho.trans M2.rho
       have hd2 : D.le D2 := M1.le.trans M2.le
       -- what is taken
       obtain ⟨Qs, Ls1, q1, q2, q3, q4, q5⟩ := takeB_ok _ _ _ _ hL1 H.l H.nd
       have hn1 : (L1.map (·.1)).Nodup := H.nd.sublist (q3.map _)
       obtain ⟨Bq, Ls2, b1, b2, b3, b4, b5, b6⟩ := pickN_ok _ _ _ _ _ hpick q2 hn1
       obtain ⟨es1, es2, rfl, f1, f2⟩ := List.map_eq_append_iff.1 b5
       have hesm : ∀ e ∈ es1 ++ es2, e ∈ m2.s.L := fun e he => q3.subset (b6.symm.subset (List.mem_append_left _ he))
       have hk2 : es2 = keepJ q s0 := by
        refine map_inj_on f2 fun x hx' y hy hxy => ?_
        have hx1 := lookA_of_mem (hesm x (List.mem_append_right _ hx')) H.nd
        have hy0 : y ∈ s0.L := delBs_sub.subset hy
        have hy1 := lookA_of_mem hy0 h0.nd
        obtain ⟨i, v, b⟩ := x
        obtain ⟨i', v', b'⟩ := y
        simp only [Prod.mk.injEq] at hxy
        obtain ⟨rfl, rfl⟩ := hxy
        have hv := h0.ver _ hy0
        have := hx.l _ _ _ (hext.l _ _ _ hx1 (Nat.lt_of_lt_of_le hv hx.nx)) hv
        rw [hy1] at this
        simp only [Option.some.injEq, Prod.mk.injEq, true_and] at this
        rw [this]
       subst hk2
       obtain ⟨Bq1, Bq2, rfl, r1, r2⟩ : ∃ X Y, Bq = X ++ Y ∧ RLs ρ2 D2 es1 X ∧ RLs ρ2 D2 (keepJ q s0) Y := RLs_split b4
       have hperm : (Lv2 ++ R).Perm (Ls2 ++ ((Bq1 ++ (Qs.reverse ++ Bq2)) ++ R)) := by
        have h1 : Lv2.Perm (Qs ++ ((Bq1 ++ Bq2) ++ Ls2)) := q1.trans (List.Perm.append_left _ b1)
        have h2 : (Qs ++ ((Bq1 ++ Bq2) ++ Ls2)).Perm (Ls2 ++ (Bq1 ++ (Qs.reverse ++ Bq2))) := by
         have z1 : (Qs ++ ((Bq1 ++ Bq2) ++ Ls2)) = (Qs ++ (Bq1 ++ Bq2)) ++ Ls2 := by simp
         rw [z1]
         refine List.perm_append_comm.trans (List.Perm.append_left _ ?_)
         have z2 : Qs ++ (Bq1 ++ Bq2) = (Qs ++ Bq1) ++ Bq2 := by simp
         have z3 : Bq1 ++ (Qs.reverse ++ Bq2) = (Bq1 ++ Qs.reverse) ++ Bq2 := by simp
         rw [z2, z3]
         refine List.Perm.append_right _ (List.perm_append_comm.trans (List.Perm.append_left _ (List.reverse_perm Qs).symm))
        have := List.Perm.append_right R (h1.trans h2)
        rwa [List.append_assoc] at this
       have hS := (H.st.prm hperm)
       have hBq : Bq1 = Bs := bw_eq (L := L1) hS H.nd (fun e he => q3.subset he) B2 r1 f1 (fun e he => b6.symm.subset (List.mem_append_left _ (List.mem_append_left _ he))) (fun q hq => by simp [hq])
       subst hBq
       have hS2 := hS.drops
       -- names
       have hren : Ren (OwS ρ2 m2.s m2.ow) (OwQ Qs D2) (os1 ++ os2) (idx 0 (os1 ++ os2)) := by
        refine Ren_idx _ 0 fun k x hx t e f xl A cap ex ho => ?_
        rw [Nat.zero_add]
        have hon : ((on1 ++ on2).map (·.1))[k]? = some x.1 := by
         rw [List.map_append, ← E1', ← E2, ← List.map_append, List.getElem?_map, hx]; rfl
        rw [List.getElem?_map] at hon
        obtain ⟨y, hy, hyx⟩ := Option.map_eq_some_iff.1 hon
        obtain ⟨b, q, z1, z2, z3⟩ := q5 k y hy
        obtain ⟨s1, ver, f0, w1, w2, w3, w4, w5, w6⟩ := ho
        have hmem : (x.1, ver) ∈ on1 ++ on2 := by rw [← how]; simpa using w6
        obtain ⟨k2, hk2⟩ := List.mem_iff_getElem?.1 hmem
        obtain ⟨b', q', z4, _, _⟩ := q5 k2 _ hk2
        rw [hyx] at z1 z3
        rw [z4] at z1
        simp only [Option.some.injEq, Prod.mk.injEq] at z1
        obtain ⟨z5, z6⟩ := z1
        subst z6
        have z7 := w1.l _ _ _ z4 w3
        rw [w2] at z7
        simp only [Option.some.injEq, Prod.mk.injEq] at z7
        rw [← z7.2] at z3
        obtain ⟨A', cap', z8, z9⟩ := z3
        rw [w5] at z8
        cases z8
        exact ⟨q, z2, z9.of w4⟩
       obtain ⟨y1, y2, hy, rn1, rn2⟩ := Ren_app hren
       have PA := PRT_ren (PRT_mono (bet_mono M2.rho M2.bd) M2.le (fun _ _ _ _ _ _ _ ho => OwS_mono M2.rho M2.ext (fun x hx => by rw [M2.ow]; exact List.mem_append_right _ hx) ho) P1) rn1
       have PB := PRC_ren P2 rn2
       have hlen : (os1 ++ os2).length = Qs.length := by
        rw [q4]
        have : ((os1 ++ os2).map (·.1)).length = ((on1 ++ on2).map (·.1)).length := by simp [E1', E2]
        simpa using this
       have hidx : (y1 ++ y2).map (·.1) = List.range' 0 Qs.length := by
        rw [← hy, idx_map, hlen]
       have hyl : (y1 ++ y2).length = Qs.length := by
        have := congrArg List.length hidx
        simpa using this
       -- the new names
       let oA := y1 ++ y2
       let ρ' : Rho := fun id => if id < s0.nx then ρ2 id else (oA[id - s0.nx]?).map (·.2)
       have hag : ∀ i, ρ0 i ≠ none → ρ' i = ρ2 i := fun i hi => by
        cases hp : ρ0 i with
        | none => exact absurd hp hi
        | some p => simp only [ρ']; rw [if_pos (h0.dom i p hp)]
       have hin : ∀ i, i ∈ s0.L.map (·.1) → ρ' i = ρ2 i := fun i hi => by
        obtain ⟨e, he, rfl⟩ := List.mem_map.1 hi
        simp only [ρ']; rw [if_pos (h0.idlt he)]
       have hbd : ∀ b n i, bet ρ2 m2.bd b = some n → lookA (ptBd s0 q.pt) b = some i → ρ' i = some (.blk n) := by
        intro b n i hb hi
        rw [hag i (ptBd_ok h0 hi)]
        unfold bet at hb
        rw [M2.bd _ _ (M1.bd _ _ hi)] at hb
        simp only at hb
        split at hb
        ·rename_i m hm; cases hb; exact hm
        ·cases hb
       have hown : ∀ k x, oA[k]? = some x → ρ' (s0.nx + k) = some x.2 := by
        intro k x hx
        simp only [ρ']
        rw [if_neg (by omega), Nat.add_sub_cancel_left, hx]
        rfl
       obtain ⟨I1, X1, X2⟩ := instT_ok q.tm _ i1 E1 dn1 y1 dn2 hi1 (by rw [hpu]) PA
       obtain ⟨I2, Y1, Y2⟩ := instC_ok q.bl i1 i2 N1 dn2 y2 Bq1 [] hi2 (by rw [I1.dy]; simp) PB
       have R1 := X2 ρ' hbd (fun k x hx => hown k x (by simp only [oA]; rw [List.getElem?_append_left (List.getElem?_eq_some_iff.1 hx).1]; exact hx))
       have hI1 : i1.nx = s0.nx + y1.length := I1.nx
       have R2 := Y2 ρ' hbd (fun k x hx => by
        rw [hI1, Nat.add_assoc]
        exact hown _ x (by simp only [oA]; rw [List.getElem?_append_right (Nat.le_add_right _ _), Nat.add_sub_cancel_left]; exact hx)) hin
       have hI2 : i2.nx = s0.nx + oA.length := by rw [I2.nx, hI1]; simp only [oA, List.length_append]; omega
       obtain ⟨eo, eoL, eoO⟩ := (I1.trans I2).L
       have eoL : i2.L = eo.reverse := by rw [eoL]; simp
       have eoO : OEs (OwQ Qs D2) s0.nx oA eo := eoO
       obtain ⟨eid1, eid2⟩ := OEs_ids eoO
       have R4 : RLs ρ' D2 eo Qs := by
        have := OEs_RLs (ρ := ρ') (j := 0) eoO (by rw [show oA.map (·.1) = List.range' 0 Qs.length from hidx, hyl]) (by rw [Nat.zero_add]; exact hyl) hown
        simpa using this
       have R5 : RLs ρ' D2 (keepJ q s0) Bq2 := RLs_agree hag (fun e he => RLs_mem h0.l (delBs_sub.subset he)) r2
       subst hi
       have hLL : RLs ρ' D2 (N1 ++ (i2.L ++ keepJ q s0)) (Bq1 ++ (Qs.reverse ++ Bq2)) := by
        rw [eoL]
        exact RLs_app R2 (RLs_app (RLs_rev R4) R5)
       have hNid : N1.map (·.1) = es1.map (·.1) := by
        rw [BwS_ids (ρ := ρ) (w := w) (m := s) hm2 N1 i1 _ i2 hi2, ← f1]
        simp
       have hkl : ∀ e ∈ keepJ q s0, e ∈ s0.L := fun e he => delBs_sub.subset he
       have hall : ∀ e ∈ N1 ++ (i2.L ++ keepJ q s0), e ∈ s0.L ∨ (s0.nx ≤ e.2.1 ∧ e.2.1 < i2.nx + 1) := by
        intro e he
        rcases List.mem_append.1 he with he | he
        ·have := (Y1 e he).1; exact .inr ⟨by omega, by omega⟩
        rcases List.mem_append.1 he with he | he
        ·rw [eoL, List.mem_reverse] at he
         have h1 := eid2 e he
         have h2 : e.1 ∈ eo.map (·.1) := List.mem_map.2 ⟨e, he, rfl⟩
         rw [eid1, List.mem_range'_1] at h2
         exact .inr ⟨by omega, by omega⟩
        ·exact .inl (hkl e he)
       have hnd : ((N1 ++ (i2.L ++ keepJ q s0)).map (·.1)).Nodup := by
        have n1 : (es1.map (·.1) ++ (keepJ q s0).map (·.1)).Nodup := by
         rw [← List.map_append]
         exact (((b6.map (·.1)).nodup_iff.1 hn1).sublist ((List.sublist_append_left _ _).map _))
        rw [List.nodup_append] at n1
        have n2 : ∀ x ∈ N1.map (·.1), x < s0.nx := fun x hx => by
         obtain ⟨e, he, rfl⟩ := List.mem_map.1 hx
         obtain ⟨e', he', h2⟩ := List.mem_map.1 (Y1 e he).2
         rw [← h2]; exact h0.idlt he'
        have n3 : ∀ x ∈ (keepJ q s0).map (·.1), x < s0.nx := fun x hx => by obtain ⟨e, he, rfl⟩ := List.mem_map.1 hx; exact h0.idlt (hkl e he)
        rw [List.map_append, List.map_append, eoL, List.map_reverse, eid1]
        rw [List.nodup_append, List.nodup_append]
        refine ⟨by rw [hNid]; exact n1.1, ⟨(List.reverse_perm _).nodup_iff.2 List.nodup_range', n1.2.1, ?_⟩, ?_⟩
        ·intro x hx y hy
         rw [List.mem_reverse, List.mem_range'_1] at hx
         have := n3 y hy
         omega
        ·intro x hx y hy
         have := n2 x hx
         rcases List.mem_append.1 hy with hy | hy
         ·rw [List.mem_reverse, List.mem_range'_1] at hy; omega
         ·rw [hNid] at hx; exact n1.2.2 x hx y hy
       have hE1 : ∀ t sv, lookA E1 t = some sv → mask.testBit t = true := fun t sv ht => by
        have : t ∈ E1.map (·.1) := List.mem_map.2 ⟨_, lookA_mem ht, rfl⟩
        rw [X1] at this
        exact tmIn_ok htm t this
       refine ⟨⟨ρ', D2, _, R, ⟨fun i p hp => ?_, fun j p hj => ?_, fun e he => ?_, hnd, H.size, H.ds, fun t sv ht => ?_, hLL, hS2, (by have e := Nat.eq_of_beq_eq_true hmd; show ct.fr.p s0.md.m D2 a R; rw [← e]; exact H.fr), fun id n t c hid => ?_, ⟨by show ct.nb ≤ i2.nx + 1; have := h0.ex.1; omega, fun i hi hn => by have := h0.ex.1; simp only [ρ']; rw [if_pos (by omega)]; exact H.ex.2 i hi hn⟩, h0.o⟩⟩, ⟨fun t ht sv hl => ?_, ?_, fun id v sb hl hv => ?_⟩⟩
       ·have h3 := h0.rb i p hp
        rw [hag i (by rw [h3]; simp)]
        exact H.rb i p hp
       ·show j < i2.nx + 1
        simp only [ρ'] at hj
        split at hj
        ·omega
        ·obtain ⟨x, hx, _⟩ := Option.map_eq_some_iff.1 hj
         have := (List.getElem?_eq_some_iff.1 hx).1
         omega
       ·show e.2.1 < i2.nx + 1
        rcases hall e he with h1 | h1
        ·have := h0.ver e h1; omega
        ·exact h1.2
       ·simp only [lookA_app] at ht
        cases h1 : lookA E1 t with
        | some sv1 =>
         rw [h1] at ht
         simp only [Option.some_or, Option.some.injEq] at ht
         subst ht
         exact R1 t _ h1
        | none =>
         rw [h1, Option.none_or, lookA_filE] at ht
         split at ht
         ·cases ht
         ·rename_i hb
          obtain ⟨sv', g1, g2⟩ := hx.e t (by simpa using hb) sv ht
          obtain ⟨v, g3, g4⟩ := h.e t sv' g1
          obtain ⟨v0, _, g5⟩ := h0.e t sv ht
          exact ⟨v, g3, RV_agree hag g5 (RV_mono hr2 hd2 (g2 _ _ _ g4))⟩
       ·have k0 := (h0.ini id n t c hid).1
        have hlt := h0.dom _ _ k0
        obtain ⟨k1, k2⟩ := H.ini id n t c hid
        refine ⟨by rw [hag id (by rw [k0]; simp)]; exact k1, fun b hl => ?_⟩
        have hmem := lookA_mem hl
        rcases List.mem_append.1 hmem with he | he
        ·have h1 : id = s0.nx := (Y1 _ he).1
         omega
        rcases List.mem_append.1 he with he | he
        ·rw [eoL, List.mem_reverse] at he
         have h2 : id ∈ eo.map (·.1) := List.mem_map.2 ⟨_, he, rfl⟩
         rw [eid1, List.mem_range'_1] at h2
         omega
        ·exact k2 b (lookA_of_mem (hesm _ (List.mem_append_right _ he)) H.nd)
       ·refine ⟨sv, ?_, fun _ _ _ h => h⟩
        show lookA (E1 ++ filE mask s0.E) t = some sv
        rw [lookA_app, lookA_filE, if_neg (by simp [ht]), hl]
        cases h1 : lookA E1 t with
        | some sv1 => rw [hE1 t sv1 h1] at ht; cases ht
        | none => rfl
       ·show s0.nx ≤ i2.nx + 1; omega
       ·rcases hall _ (lookA_mem hl) with h1 | h1
        ·exact lookA_of_mem h1 h0.nd
        ·have h2 : s0.nx ≤ v := h1.1
         omega
      ·cases hi
     ·cases hi
    ·cases ha
   ·cases ha
  ·cases ha
 ·cases ha
end
end Go.Sep
