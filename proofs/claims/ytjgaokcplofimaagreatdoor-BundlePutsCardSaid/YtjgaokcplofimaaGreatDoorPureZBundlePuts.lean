/-
 The plain law of BundlePuts.
-/
import Derived.Test.YtjgaokcplofimaaGreatDoorPureRt
import Derived.Test.YtjgaokcplofimaaGreatDoorPureGr
namespace Go.Proofs.YtjgaokcplofimaaGreatDoor
open Go Go.Sep
/-! ### right -/
theorem q17_l1 {K : Nat} {x : Bun} (hK : x.fPoint.fSigs.length < K) (hl : x.fPoint.fSigs.length < 1000000000000) : inspeximusref17_Right_l1.l K x K 0 = some (bif x.fPoint.fSigs.all sigOk then .inr () else .inl false) := by
 have hL := loop_all (L := inspeximusref17_Right_l1.l K x) (fun (_ : Unit) (i : Nat) => (i : Int)) x.fPoint.fSigs (fun _ i s => some (bif sigOk s then .inr () else .inl (.inl false))) (fun _ => some (.inr ())) () hK
  (fun k s => by
   show inspeximusref17_Right_l1.b K x (inspeximusref17_Right_l1.l K x k) _ = _
   unfold inspeximusref17_Right_l1.b
   rw [bif_false (dec_f (by simp))])
  (fun k s i y hi hy => by
   show inspeximusref17_Right_l1.b K x (inspeximusref17_Right_l1.l K x k) _ = _
   unfold inspeximusref17_Right_l1.b
   rw [bif_true (dec_t (by omega))]
   refine Eq.trans (jn_val (!sigOk y) (fun j => ?_)) ?_
   ·try dsimp only
    rw [bnd (getI_lt hy)]
    unfold sigOk inn
    by_cases h1 : y.fWit < 0
    ·rw [bif_true (dec_t h1), dec_f (show ¬ (0 : Int) ≤ y.fWit by omega)]; rfl
    ·rw [bif_false (dec_f h1), bnd (getI_lt hy), dec_t (show (0 : Int) ≤ y.fWit by omega)]
     by_cases h2 : (3 : Int) < y.fWit
     ·rw [dec_t h2, dec_f (show ¬ y.fWit ≤ 3 by omega)]; rfl
     ·rw [dec_f h2, dec_t (show y.fWit ≤ 3 by omega)]; rfl
   ·try dsimp only
    rw [wrap_succ (by omega)]
    cases sigOk y <;> rfl)
 have hL : inspeximusref17_Right_l1.l K x K 0 = _ := hL
 obtain ⟨r1, r2⟩ := run_find (good := sigOk) (v := fun _ => false) (l := x.fPoint.fSigs) (s := ()) (i := 0) (f := fun _ i s => some (bif sigOk s then .inr () else .inl (.inl false))) (fun s i x _ => rfl)
 cases hg : x.fPoint.fSigs.all sigOk with
 | true => rw [hL, r1 hg]; rfl
 | false =>
  obtain ⟨j, _, _, hj⟩ := r2 hg
  rw [hL, hj]; rfl
theorem q17_l2 {K : Nat} (hK : 1000000000000 ≤ K) {x : Bun} (hx : okBun x) (hs : 0 ≤ x.fPoint.fSize ∧ x.fPoint.fSize ≤ 400) : ∀ (m pre : List It) (last : Int) (k : Nat), x.fItems = pre ++ m → m.length < k → (pre = [] → last = -1) → (pre ≠ [] → ∃ y, getI x.fItems ((pre.length : Int) - 1) = some y ∧ y.fAt = last) → -1 ≤ last ∧ last < 400 → (pre ≠ [] → 0 ≤ last) →
  inspeximusref17_Right_l2.l K x k (pre.length : Int) = some (bif itemsOk x.fWhole x.fPoint.fSize last pre.length m then .inr () else .inl false) := by
 intro m
 have hlen := hx.len
 induction m with
 | nil =>
  intro pre last k h hk _ _ _ _
  obtain ⟨k, rfl⟩ : ∃ j, k = j + 1 := ⟨k - 1, by omega⟩
  show inspeximusref17_Right_l2.b K x (inspeximusref17_Right_l2.l K x k) _ = _
  unfold inspeximusref17_Right_l2.b
  rw [bif_false (dec_f (by rw [h]; simp))]
  rfl
 | cons y m ih =>
  intro pre last k h hk h0 h1 hl hl0
  obtain ⟨k, rfl⟩ : ∃ j, k = j + 1 := ⟨k - 1, by omega⟩
  have hll := congrArg List.length h
  simp only [List.length_append, List.length_cons] at hll hk
  have hg : getI x.fItems (pre.length : Int) = some y := getI_lt (by rw [h]; simp)
  have hok := hx.items y (by rw [h]; simp)
  show inspeximusref17_Right_l2.b K x (inspeximusref17_Right_l2.l K x k) _ = _
  unfold inspeximusref17_Right_l2.b
  rw [bif_true (dec_t (by omega)), bnd hg]
  refine Eq.trans (jn_val (!(rightS y.fRec && (inn y.fAt (last + 1) (x.fPoint.fSize - 1) && decide ((y.fPath.length : Int) ≤ 20)))) (fun j => ?_)) ?_
  ·try dsimp only
   rw [bnd (rright_eq hK hok.d)]
   cases rightS y.fRec with
   | false => rfl
   | true =>
    simp only [Bool.not_true, cond_false, Bool.true_and]
    unfold inn
    by_cases a1 : y.fAt < 0
    ·rw [bif_true (dec_t a1), dec_f (show ¬ last + 1 ≤ y.fAt by omega)]; rfl
    rw [bif_false (dec_f a1)]
    by_cases a2 : x.fPoint.fSize ≤ y.fAt
    ·rw [bif_true (dec_t a2), dec_f (show ¬ y.fAt ≤ x.fPoint.fSize - 1 by omega)]; simp
    rw [bif_false (dec_f a2), dec_t (show y.fAt ≤ x.fPoint.fSize - 1 by omega)]
    by_cases a3 : (20 : Int) < (y.fPath.length : Int)
    ·rw [bif_true (dec_t a3), dec_f (show ¬ (y.fPath.length : Int) ≤ 20 by omega)]; simp
    rw [bif_false (dec_f a3), dec_t (show (y.fPath.length : Int) ≤ 20 by omega)]
    by_cases hp : pre = []
    ·have := h0 hp
     subst hp
     rw [bif_false (dec_f (by simp)), dec_t (show last + 1 ≤ y.fAt by omega)]; rfl
    ·have hpl : 0 < pre.length := List.length_pos_iff.2 hp
     obtain ⟨z, hz, hza⟩ := h1 hp
     rw [bif_true (dec_t (by omega)), wrap64 (by omega) (by omega), bnd hz, hza]
     by_cases a4 : y.fAt ≤ last
     ·rw [dec_t a4, dec_f (show ¬ last + 1 ≤ y.fAt by omega)]; rfl
     ·rw [dec_f a4, dec_t (show last + 1 ≤ y.fAt by omega)]; rfl
  ·try dsimp only
   unfold itemsOk itemOk
   cases hA : rightS y.fRec && (inn y.fAt (last + 1) (x.fPoint.fSize - 1) && decide ((y.fPath.length : Int) ≤ 20)) with
   | false =>
    simp only [Bool.not_false, cond_true]
    have : (rightS y.fRec && (inn y.fAt (last + 1) (x.fPoint.fSize - 1) && (decide ((y.fPath.length : Int) ≤ 20) && (!x.fWhole || (decide (y.fAt = (pre.length : Int)) && decide (y.fPath.length = 0)))))) = false := by
     revert hA
     cases rightS y.fRec <;> cases inn y.fAt (last + 1) (x.fPoint.fSize - 1) <;> cases decide ((y.fPath.length : Int) ≤ 20) <;> simp
    rw [this]; rfl
   | true =>
    simp only [Bool.and_eq_true] at hA
    obtain ⟨hA1, hA2, hA3⟩ := hA
    rw [hA1, hA2, hA3]
    simp only [Bool.not_true, cond_false, Bool.true_and]
    have hin := inn_iff.1 hA2
    have hrec := ih (pre ++ [y]) y.fAt k (by rw [h]; simp) (by omega) (fun e => by simp at e) (fun _ => ⟨y, by
     rw [show (((pre ++ [y]).length : Nat) : Int) - 1 = (pre.length : Int) by simp]; exact hg, rfl⟩) (by omega) (fun _ => by omega)
    simp only [List.length_append, List.length_singleton] at hrec
    refine Eq.trans (jn_val (x.fWhole && !(decide (y.fAt = (pre.length : Int)) && decide (y.fPath.length = 0))) (fun j => ?_)) ?_
    ·try dsimp only
     cases x.fWhole with
     | false => rfl
     | true =>
      simp only [cond_true, Bool.true_and]
      by_cases b1 : y.fAt = (pre.length : Int)
      ·rw [bif_false (by simp [b1]), dec_t b1]
       by_cases b2 : y.fPath.length = 0
       ·rw [dec_t b2, dec_f (show ¬ (0 : Int) < (y.fPath.length : Int) by omega)]; rfl
       ·rw [dec_f b2, dec_t (show (0 : Int) < (y.fPath.length : Int) by omega)]; rfl
      ·rw [bif_true (by simp [b1]), dec_f b1]; rfl
    ·try dsimp only
     rw [wrap_succ (by omega), hrec]
     cases x.fWhole with
     | false => rfl
     | true =>
      simp only [Bool.true_and, Bool.not_true, Bool.false_or]
      cases decide (y.fAt = (pre.length : Int)) && decide (y.fPath.length = 0) <;> rfl
theorem q17_right {K : Nat} (hK : 1000000000000 ≤ K) {x : Bun} (hx : okBun x) : inspeximusref17_Right.f K x = some (rightB x) := by
 unfold inspeximusref17_Right.f rightB pointOk
 have hs := hx.sigs
 have hl := hx.len
 refine Eq.trans (jn_val (!(inn x.fPoint.fSize 0 400 && (decide ((x.fPoint.fSigs.length : Int) ≤ 4) && decide ((x.fItems.length : Int) ≤ x.fPoint.fSize)))) (fun j => ?_)) ?_
 ·try dsimp only
  unfold inn
  by_cases a1 : x.fPoint.fSize < 0
  ·rw [bif_true (dec_t a1), dec_f (show ¬ (0 : Int) ≤ x.fPoint.fSize by omega)]; rfl
  rw [bif_false (dec_f a1), dec_t (show (0 : Int) ≤ x.fPoint.fSize by omega)]
  by_cases a2 : (400 : Int) < x.fPoint.fSize
  ·rw [bif_true (dec_t a2), dec_f (show ¬ x.fPoint.fSize ≤ 400 by omega)]; rfl
  rw [bif_false (dec_f a2), dec_t (show x.fPoint.fSize ≤ 400 by omega)]
  by_cases a3 : (4 : Int) < (x.fPoint.fSigs.length : Int)
  ·rw [bif_true (dec_t a3), dec_f (show ¬ (x.fPoint.fSigs.length : Int) ≤ 4 by omega)]; rfl
  rw [bif_false (dec_f a3), dec_t (show (x.fPoint.fSigs.length : Int) ≤ 4 by omega)]
  by_cases a4 : x.fPoint.fSize < (x.fItems.length : Int)
  ·rw [dec_t a4, dec_f (show ¬ (x.fItems.length : Int) ≤ x.fPoint.fSize by omega)]; rfl
  ·rw [dec_f a4, dec_t (show (x.fItems.length : Int) ≤ x.fPoint.fSize by omega)]; rfl
 ·try dsimp only
  cases hp : inn x.fPoint.fSize 0 400 with
  | false => rfl
  | true =>
  have hsz := inn_iff.1 hp
  cases decide ((x.fPoint.fSigs.length : Int) ≤ 4) with
  | false => rfl
  | true =>
  cases decide ((x.fItems.length : Int) ≤ x.fPoint.fSize) with
  | false => simp
  | true =>
  simp only [Bool.and_true, Bool.true_and, Bool.not_true, cond_false]
  rw [bnd (q17_l1 (K := K) (by omega) (by omega))]
  cases x.fPoint.fSigs.all sigOk with
  | false => rfl
  | true =>
  simp only [cond_true, Bool.true_and]
  have h2 := q17_l2 hK hx hsz x.fItems [] (-1) K rfl (by omega) (fun _ => rfl) (fun h => absurd rfl h) (by omega) (fun h => absurd rfl h)
  have h2 : inspeximusref17_Right_l2.l K x K 0 = some (bif itemsOk x.fWhole x.fPoint.fSize (-1) 0 x.fItems then .inr () else .inl false) := h2
  refine Eq.trans (jn_val (x.fWhole && !decide ((x.fItems.length : Int) = x.fPoint.fSize)) (fun j => ?_)) ?_
  ·try dsimp only
   cases x.fWhole <;> rfl
  ·try dsimp only
   rw [h2]
   cases x.fWhole <;> cases decide ((x.fItems.length : Int) = x.fPoint.fSize) <;> cases itemsOk _ x.fPoint.fSize (-1) 0 x.fItems <;> rfl
/-! ### bytes -/
theorem q17_sigs {K : Nat} (hK : 1000000000000 ≤ K) {x : Bun} (hr : RightP x) {s : List Int} (hs : s.length < 1000000) : inspeximusref17_Put_l1.l K x K (s, 0) = some (s ++ (x.fPoint.fSigs.map sigW).flatten) := by
 have h4 := hr.sigs
 have hfl : (x.fPoint.fSigs.map sigW).flatten.length ≤ 37 * x.fPoint.fSigs.length := flat_len (fun y hy => sigW_len (hr.wits y hy))
 exact cat_loop (L := inspeximusref17_Put_l1.l K x) x.fPoint.fSigs sigW s (k := K) (by omega)
  (fun k s => by
   show inspeximusref17_Put_l1.b K x (inspeximusref17_Put_l1.l K x k) _ = _
   unfold inspeximusref17_Put_l1.b
   rw [bif_false (dec_f (by simp))])
  (fun k s i y hi hy hm hs => by
   show inspeximusref17_Put_l1.b K x (inspeximusref17_Put_l1.l K x k) _ = _
   unfold inspeximusref17_Put_l1.b
   rw [bif_true (dec_t (by simp only; omega))]
   have hw := hr.wits y hm
   simp only [sigW, List.length_append] at hs
   refine bind_of hy ?_
   refine bind_of hy ?_
   refine bind_of (refN hK hw) ?_
   refine bind_of (catI_ok (by simp only; omega)) ?_
   refine bind_of (arr_part _) ?_
   refine bind_of (catI_ok (by simp only [List.length_append]; omega)) ?_
   rw [wrap_succ (by omega)]
   simp only [sigW, List.append_assoc])
  (by omega)
theorem q17_items {K : Nat} (hK : 1000000000000 ≤ K) {x : Bun} (ho : okBun x) (hr : RightP x) {s : List Int} (hs : s.length < 1000000) : inspeximusref17_Put_l2.l K x K (s, 0) = some (s ++ (x.fItems.map (bif x.fWhole then wholeW else itemW)).flatten) := by
 have hll := hr.len
 have hone : ∀ y ∈ x.fItems, ((bif x.fWhole then wholeW else itemW) y).length ≤ 1000 := fun y hy => by
  have h := hr.items y hy
  cases x.fWhole with
  | false => exact (itemW_len h).1
  | true =>
   have := openW_len h.1
   show (openW y.fRec).length ≤ 1000
   omega
 have hfl := flat_len hone
 exact cat_loop (L := inspeximusref17_Put_l2.l K x) x.fItems (bif x.fWhole then wholeW else itemW) s (k := K) (by omega)
  (fun k s => by
   show inspeximusref17_Put_l2.b K x (inspeximusref17_Put_l2.l K x k) _ = _
   unfold inspeximusref17_Put_l2.b
   rw [bif_false (dec_f (by simp))])
  (fun k s i y hi hy hm hs => by
   show inspeximusref17_Put_l2.b K x (inspeximusref17_Put_l2.l K x k) _ = _
   unfold inspeximusref17_Put_l2.b
   rw [bif_true (dec_t (by simp only; omega))]
   have h := hr.items y hm
   have hoy := ho.items y hm
   have hop := openW_len h.1
   have hat := numW_len h.2.1
   have hpn := numS_len (n := y.fPath.length) (by omega)
   have hpl := pathW_len h.2.2
   unfold pathW at hpl
   rw [List.length_append] at hpl
   refine Eq.trans (jn_val (s ++ (bif x.fWhole then wholeW else itemW) y) (fun j => ?_)) ?_
   ·try dsimp only
    rw [bnd hy]
    cases hw : x.fWhole with
    | true =>
     rw [hw] at hs
     have hs' : s.length + (openW y.fRec).length < 1000000000000 := hs
     refine Eq.trans (jn_val s (fun j => rfl)) ?_
     try dsimp only
     rw [bnd (rput_open hK hoy.d h.1), bnd (catI_ok (by omega))]
     rfl
    | false =>
     rw [hw] at hs
     have hs' : s.length + (numW y.fAt ++ (openW y.fRec ++ (numS y.fPath.length ++ (y.fPath.map hashW).flatten))).length < 1000000000000 := hs
     simp only [List.length_append] at hs'
     refine Eq.trans (jn_val (s ++ numW y.fAt) (fun j => ?_)) ?_
     ·try dsimp only
      rw [bif_true (by rfl), bnd (refN hK h.2.1), bnd (catI_ok (by omega))]
     ·try dsimp only
      have en : inspeximusref03_Num.f K ((y.fPath.length : Nat) : Int) = some (numS y.fPath.length) := by
       rw [refN hK (n := ((y.fPath.length : Nat) : Int)) ⟨by omega, by omega⟩]
       unfold numW; rw [Int.toNat_natCast]
      rw [bnd (rput_open hK hoy.d h.1), bnd (catI_ok (by simp only [List.length_append]; omega))]
      simp only [cond_false]
      rw [bnd en, bnd (catI_ok (by simp only [List.length_append]; omega))]
      rw [bnd (x := (((s ++ numW y.fAt) ++ openW y.fRec) ++ numS y.fPath.length) ++ (y.fPath.map hashW).flatten) (by
       have key : ∀ (s : List Int), s.length < 1000000000000 → s.length + (y.fPath.map hashW).flatten.length < 1000000000000 → inspeximusref17_Put_l3.l K y K (s, 0) = some (s ++ (y.fPath.map hashW).flatten) := fun s h1 h2 =>
        cat_loop (L := inspeximusref17_Put_l3.l K y) y.fPath hashW s (k := K) (by omega)
         (fun k s => by
          show inspeximusref17_Put_l3.b K y (inspeximusref17_Put_l3.l K y k) _ = _
          unfold inspeximusref17_Put_l3.b
          rw [bif_false (dec_f (by simp))])
         (fun k s i h hi hh hm hs => by
          show inspeximusref17_Put_l3.b K y (inspeximusref17_Put_l3.l K y k) _ = _
          unfold inspeximusref17_Put_l3.b
          rw [bif_true (dec_t (by simp only; omega))]
          have hs' : s.length + (vlist h).length < 1000000000000 := hs
          refine bind_of hh ?_
          refine bind_of (arr_part _) ?_
          refine bind_of (catI_ok (by simp only; omega)) ?_
          rw [wrap_succ (by omega)]
          rfl)
         h2
       exact key _ (by simp only [List.length_append]; omega) (by simp only [List.length_append]; omega))]
      have e : (((s ++ numW y.fAt) ++ openW y.fRec) ++ numS y.fPath.length) ++ (y.fPath.map hashW).flatten = s ++ itemW y := by
       simp [itemW, pathW]
      rw [e]
   ·try dsimp only
    rw [wrap_succ (by omega)])
  (by omega)
theorem q17_put {K : Nat} (hK : 1000000000000 ≤ K) {x : Bun} (ho : okBun x) : inspeximusref17_Put.f K x = some (bif rightB x then mark ++ bunW x else []) := by
 unfold inspeximusref17_Put.f
 rw [bnd (q17_right hK ho)]
 cases hrb : rightB x with
 | false => rfl
 | true =>
 have hr := rightP hrb
 have hsz := hr.size
 have h4 := hr.sigs
 have hll := hr.len
 have hN : inN x.fPoint.fSize := by omega
 have hsl := numW_len hN
 rw [bif_false (by rfl)]
 simp only [cond_true]
 refine Eq.trans (jn_val (mark ++ [flagI x.fWhole]) (fun j => ?_)) ?_
 ·try dsimp only
  cases x.fWhole with
  | true => rw [bif_true (by rfl), bnd (catI_ok (by decide))]; rfl
  | false => rw [bif_false (by rfl), bnd (catI_ok (by decide))]; rfl
 ·try dsimp only
  have vl : ∀ v : H32, (vlist v).length = 32 := fun v => vlist_length v
  have hm : (mark ++ [flagI x.fWhole]).length = 5 := rfl
  have hsn := numS_len (n := x.fPoint.fSigs.length) (by omega)
  have hin := numS_len (n := x.fItems.length) (by omega)
  have hsf : (x.fPoint.fSigs.map sigW).flatten.length ≤ 37 * x.fPoint.fSigs.length := flat_len (fun y hy => sigW_len (hr.wits y hy))
  have enum : ∀ n : Nat, n < 2147483648 → inspeximusref03_Num.f K (n : Int) = some (numS n) := fun n hn => by
   rw [refN hK (n := (n : Int)) ⟨by omega, by omega⟩]
   unfold numW; rw [Int.toNat_natCast]
  rw [bnd (refN hK hN), bnd (catI_ok (by rw [hm]; omega)), bnd (arr_part _), bnd (catI_ok (by rw [List.length_append, hm, vl]; omega)), bnd (enum _ (by omega)), bnd (catI_ok (by rw [List.length_append, List.length_append, hm, vl]; omega))]
  rw [bnd (q17_sigs hK hr (by rw [List.length_append, List.length_append, List.length_append, hm, vl]; omega))]
  generalize hS : ((((mark ++ [flagI x.fWhole]) ++ numW x.fPoint.fSize) ++ vlist x.fPoint.fRoot) ++ numS x.fPoint.fSigs.length) ++ (x.fPoint.fSigs.map sigW).flatten = S
  have hSl : S.length ≤ 300 := by
   rw [← hS]
   simp only [List.length_append, vl] at *
   omega
  refine Eq.trans (jn_val (bif x.fWhole then S else S ++ numS x.fItems.length) (fun j => ?_)) ?_
  ·try dsimp only
   cases x.fWhole with
   | true => rfl
   | false => rw [bif_true (by rfl), bnd (enum _ (by omega)), bnd (catI_ok (by omega))]; rfl
  ·try dsimp only
   have hT : (bif x.fWhole then S else S ++ numS x.fItems.length).length < 1000000 := by
    cases x.fWhole with
    | true => simp only [cond_true]; omega
    | false => simp only [cond_false, List.length_append]; omega
   rw [bnd (q17_items hK ho hr hT)]
   congr 1
   unfold bunW sigsW itemsW
   rw [← hS]
   cases x.fWhole <;> simp
/-! ### the same -/
theorem q05_same {K : Nat} {l m : List H32} (hK : l.length < K) (hl : l.length < 1000000000000) : inspeximusref05_Same.f K l m = some (decide (l = m)) := by
 unfold inspeximusref05_Same.f
 by_cases hlm : l.length = m.length
 ·rw [bif_false (by simp [hlm])]
  have hz : (l.zip m).length = l.length := by simp [hlm]
  have hL := loop_all (L := inspeximusref05_Same_l1.l K l m) (fun (_ : Unit) (i : Nat) => (i : Int)) (l.zip m) (fun _ i x => some (bif decide (x.1 = x.2) then .inr () else .inl (.inl false))) (fun _ => some (.inr ())) () (by rw [hz]; exact hK)
   (fun k s => by
    show inspeximusref05_Same_l1.b K l m (inspeximusref05_Same_l1.l K l m k) _ = _
    unfold inspeximusref05_Same_l1.b
    rw [bif_false (dec_f (by rw [hz]; simp))])
   (fun k s i x hi hx => by
    obtain ⟨hx1, hx2⟩ := zip_get hx
    show inspeximusref05_Same_l1.b K l m (inspeximusref05_Same_l1.l K l m k) _ = _
    unfold inspeximusref05_Same_l1.b
    rw [bif_true (dec_t (by omega)), getI_lt hx1, getI_lt hx2]
    simp only [Option.bind_some]
    rw [wrap_succ (by omega)]
    cases decide (x.1 = x.2) <;> rfl)
  have hL : inspeximusref05_Same_l1.l K l m K 0 = _ := hL
  obtain ⟨r1, r2⟩ := run_find (good := fun (x : H32 × H32) => decide (x.1 = x.2)) (v := fun _ => false) (l := l.zip m) (s := ()) (i := 0) (f := fun _ i x => some (bif decide (x.1 = x.2) then .inr () else .inl (.inl false))) (fun s i x _ => rfl)
  rw [zip_all_eq hlm] at r1 r2
  cases hg : decide (l = m) with
  | true => rw [hL, r1 hg]; rfl
  | false =>
   obtain ⟨j, _, _, hj⟩ := r2 hg
   rw [hL, hj]; rfl
 ·rw [bif_true (by simp; omega), dec_f (fun e => hlm (by rw [e]))]
theorem q10_loop {K : Nat} {p q : T_api_Point} (hlm : p.fSigs.length = q.fSigs.length) (hK : p.fSigs.length < K) (hl : p.fSigs.length < 1000000000000) : inspeximusref10_Points_l1.l K p q K 0 = some (bif decide (p.fSigs = q.fSigs) then .inr () else .inl false) := by
 have hz : (p.fSigs.zip q.fSigs).length = p.fSigs.length := by simp [hlm]
 have hL := loop_all (L := inspeximusref10_Points_l1.l K p q) (fun (_ : Unit) (i : Nat) => (i : Int)) (p.fSigs.zip q.fSigs) (fun _ i x => some (bif decide (x.1 = x.2) then .inr () else .inl (.inl false))) (fun _ => some (.inr ())) () (by rw [hz]; exact hK)
  (fun k s => by
   show inspeximusref10_Points_l1.b K p q (inspeximusref10_Points_l1.l K p q k) _ = _
   unfold inspeximusref10_Points_l1.b
   rw [bif_false (dec_f (by rw [hz]; simp))])
  (fun k s i x hi hx => by
   obtain ⟨hx1, hx2⟩ := zip_get hx
   show inspeximusref10_Points_l1.b K p q (inspeximusref10_Points_l1.l K p q k) _ = _
   unfold inspeximusref10_Points_l1.b
   rw [bif_true (dec_t (by omega)), getI_lt hx1, getI_lt hx2]
   simp only [Option.bind_some]
   rw [wrap_succ (by omega)]
   have : (decide (x.1.fWit = x.2.fWit) && (decide (x.1.fTag = x.2.fTag) && true)) = decide (x.1 = x.2) := by
    rw [Bool.eq_iff_iff]
    obtain ⟨⟨a, b⟩, ⟨c, d⟩⟩ := x
    simp
   rw [this]
   cases decide (x.1 = x.2) <;> rfl)
 have hL : inspeximusref10_Points_l1.l K p q K 0 = _ := hL
 obtain ⟨r1, r2⟩ := run_find (good := fun (x : Sg × Sg) => decide (x.1 = x.2)) (v := fun _ => false) (l := p.fSigs.zip q.fSigs) (s := ()) (i := 0) (f := fun _ i x => some (bif decide (x.1 = x.2) then .inr () else .inl (.inl false))) (fun s i x _ => rfl)
 rw [zip_all_eq hlm] at r1 r2
 cases hg : decide (p.fSigs = q.fSigs) with
 | true => rw [hL, r1 hg]; rfl
 | false =>
  obtain ⟨j, _, _, hj⟩ := r2 hg
  rw [hL, hj]; rfl
theorem q10_points {K : Nat} {p q : T_api_Point} (hK : p.fSigs.length < K) (hl : p.fSigs.length < 1000000000000) : inspeximusref10_Points.f K p q = some (decide (p = q)) := by
 unfold inspeximusref10_Points.f
 obtain ⟨p1, p2, p3⟩ := p
 obtain ⟨q1, q2, q3⟩ := q
 simp only at hK hl
 refine Eq.trans (jn_val (!(decide (p1 = q1) && (decide (p2 = q2) && decide ((p3.length : Int) = (q3.length : Int))))) (fun j => ?_)) ?_
 ·try dsimp only
  cases decide (p1 = q1) <;> cases decide (p2 = q2) <;> rfl
 ·try dsimp only
  simp only [T_api_Point.mk.injEq]
  by_cases h1 : p1 = q1
  ·by_cases h2 : p2 = q2
   ·by_cases h3 : p3.length = q3.length
    ·rw [dec_t h1, dec_t h2, dec_t (show (p3.length : Int) = (q3.length : Int) by omega)]
     simp only [Bool.and_self, Bool.not_true, cond_false]
     rw [bnd (q10_loop (p := ⟨p1, p2, p3⟩) (q := ⟨q1, q2, q3⟩) h3 hK hl)]
     simp only [h1, h2, true_and]
     cases decide (p3 = q3) <;> rfl
    ·rw [dec_f (show ¬ (p3.length : Int) = (q3.length : Int) by omega)]
     have : ¬ (p1 = q1 ∧ p2 = q2 ∧ p3 = q3) := fun e => h3 (by rw [e.2.2])
     rw [dec_f this]; simp
   ·rw [dec_f h2]
    simp [h2]
  ·rw [dec_f h1]
   simp [h1]
theorem q17_same_l {K : Nat} (hK : 1000000000000 ≤ K) {a b : Bun} (hlm : a.fItems.length = b.fItems.length) (ha : okBun a) : inspeximusref17_Same_l1.l K a b K 0 = some (bif decide (a.fItems = b.fItems) then .inr () else .inl false) := by
 have hll := ha.len
 have hz : (a.fItems.zip b.fItems).length = a.fItems.length := by simp [hlm]
 have hL := loop_all (L := inspeximusref17_Same_l1.l K a b) (fun (_ : Unit) (i : Nat) => (i : Int)) (a.fItems.zip b.fItems) (fun _ i x => some (bif decide (x.1 = x.2) then .inr () else .inl (.inl false))) (fun _ => some (.inr ())) () (k := K) (by rw [hz]; omega)
  (fun k s => by
   show inspeximusref17_Same_l1.b K a b (inspeximusref17_Same_l1.l K a b k) _ = _
   unfold inspeximusref17_Same_l1.b
   rw [bif_false (dec_f (by rw [hz]; simp))])
  (fun k s i x hi hx => by
   obtain ⟨hx1, hx2⟩ := zip_get hx
   have hok := ha.items _ (List.mem_of_getElem? hx1)
   have hpl := hok.p
   show inspeximusref17_Same_l1.b K a b (inspeximusref17_Same_l1.l K a b k) _ = _
   unfold inspeximusref17_Same_l1.b
   rw [bif_true (dec_t (by omega))]
   refine Eq.trans (jn_val (x.1, x.2) (fun j => by
    try dsimp only
    rw [bnd (getI_lt hx1), bnd (getI_lt hx2)])) ?_
   try dsimp only
   rw [wrap_succ (by omega)]
   refine Eq.trans (jn_val (!decide (x.1 = x.2)) (fun j => ?_)) ?_
   ·try dsimp only
    rw [rrec_same hK hok.d, q05_same (by omega) (by omega)]
    obtain ⟨⟨a1, a2, a3⟩, ⟨b1, b2, b3⟩⟩ := x
    simp only [Option.bind_some, T_api_Item.mk.injEq]
    by_cases h1 : a1 = b1
    ·by_cases h2 : a2 = b2
     ·simp [h1, h2]
     ·simp [h1, h2]
    ·simp [h1]
   ·try dsimp only
    cases decide (x.1 = x.2) <;> rfl)
 have hL : inspeximusref17_Same_l1.l K a b K 0 = _ := hL
 obtain ⟨r1, r2⟩ := run_find (good := fun (x : It × It) => decide (x.1 = x.2)) (v := fun _ => false) (l := a.fItems.zip b.fItems) (s := ()) (i := 0) (f := fun _ i x => some (bif decide (x.1 = x.2) then .inr () else .inl (.inl false))) (fun s i x _ => rfl)
 rw [zip_all_eq hlm] at r1 r2
 cases hg : decide (a.fItems = b.fItems) with
 | true => rw [hL, r1 hg]; rfl
 | false =>
  obtain ⟨j, _, _, hj⟩ := r2 hg
  rw [hL, hj]; rfl
theorem q17_same {K : Nat} (hK : 1000000000000 ≤ K) {a b : Bun} (ha : okBun a) : inspeximusref17_Same.f K a b = some (decide (a = b)) := by
 unfold inspeximusref17_Same.f
 have hs := ha.sigs
 refine Eq.trans (jn_val (!(decide (a.fWhole = b.fWhole) && (decide (a.fPoint = b.fPoint) && decide ((a.fItems.length : Int) = (b.fItems.length : Int))))) (fun j => ?_)) ?_
 ·try dsimp only
  rw [q10_points (K := K) (by omega) (by omega)]
  simp only [Option.bind_some]
  cases a.fWhole <;> cases b.fWhole <;> cases decide (a.fPoint = b.fPoint) <;> rfl
 ·try dsimp only
  have key : (a = b) ↔ (a.fWhole = b.fWhole ∧ a.fPoint = b.fPoint ∧ a.fItems = b.fItems) := by
   constructor
   ·rintro rfl; exact ⟨rfl, rfl, rfl⟩
   ·obtain ⟨a1, a2, a3⟩ := a
    obtain ⟨b1, b2, b3⟩ := b
    rintro ⟨h1, h2, h3⟩
    simp only at h1 h2 h3
    rw [h1, h2, h3]
  by_cases h1 : a.fWhole = b.fWhole
  ·by_cases h2 : a.fPoint = b.fPoint
   ·by_cases h3 : a.fItems.length = b.fItems.length
    ·rw [dec_t h1, dec_t h2, dec_t (show (a.fItems.length : Int) = (b.fItems.length : Int) by omega)]
     simp only [Bool.and_self, Bool.not_true, cond_false]
     rw [bnd (q17_same_l hK h3 ha)]
     by_cases h4 : a.fItems = b.fItems
     ·rw [dec_t h4, dec_t (show a = b from key.2 ⟨h1, h2, h4⟩)]; rfl
     ·rw [dec_f h4, dec_f (show ¬ a = b from fun e => h4 (key.1 e).2.2)]; rfl
    ·rw [dec_f (show ¬ (a.fItems.length : Int) = (b.fItems.length : Int) by omega), dec_f (show ¬ a = b from fun e => h3 (by rw [(key.1 e).2.2]))]
     simp
   ·rw [dec_f h2, dec_f (show ¬ a = b from fun e => h2 (key.1 e).2.1)]
    simp
  ·rw [dec_f h1, dec_f (show ¬ a = b from fun e => h1 (key.1 e).1)]
   simp
theorem alive17z : inspeximuslaw17_alive.f 1000000000000 = some true := by kernel_rfl
theorem law_BundlePuts {K : Nat} (hK : K = 1000000000000) (x y : Bun) (hx : argBun x) (hy : argBun y) : inspeximuslaw17_BundlePuts.f K x y = some true := by
 subst hK
 have hK : (1000000000000 : Nat) ≤ 1000000000000 := Nat.le_refl _
 unfold inspeximuslaw17_BundlePuts.f
 rw [bnd alive17z, bif_false (by rfl)]
 refine Eq.trans (jn_val (greatB x || greatB y) (fun j => by
  try dsimp only
  rw [bnd (great_eq hK x), bnd (great_eq hK y)]
  cases greatB x <;> rfl)) ?_
 cases hg : greatB x with
 | true => rfl
 | false =>
 cases hg2 : greatB y with
 | true => rfl
 | false =>
 have ox := okBun_of hg hx
 have oy := okBun_of hg2 hy
 simp only [Bool.or_false, cond_false]
 rw [bnd (rightB_eq hK ox), bnd (q17_right hK ox), bif_true (by simp), bnd (put_eq hK ox), bnd (q17_put hK ox)]
 have hl : (bif rightB x then mark ++ bunW x else []).length < 1000000 := by
  cases hr : rightB x with
  | false => simp
  | true =>
   have := bunW_len (rightP hr)
   have hm : mark.length = 4 := rfl
   simp only [cond_true, List.length_append]; omega
 rw [bnd (ref_same (by omega) (by omega)), bif_true (by simp), bnd (bun_same hK ox oy), bnd (q17_same hK ox)]
 simp
end Go.Proofs.YtjgaokcplofimaaGreatDoor
