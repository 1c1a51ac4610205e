/-
 Plain: records: which are right, their open bytes, how they are read.
-/
import Derived.Test.YtjgaokcplofimaaDoorPureP
namespace Go.Proofs.YtjgaokcplofimaaDoor
open Go Go.Sep
abbrev Rc := T_api_Rec
abbrev Sp := T_api_Step
abbrev zRc : Rc := z_T_api_Rec
abbrev H32 := Vector Int 32
/-! ### loops -/
theorem cat_loop {α : Type} {L : Nat → (List Int × Int) → Option (List Int)} (l : List α) (p : α → List Int) (s : List Int) {k : Nat} (hk : l.length < k)
  (h0 : ∀ k s, L (k + 1) (s, (l.length : Int)) = some s)
  (h1 : ∀ k s (i : Nat) x, i < l.length → getI l (i : Int) = some x → x ∈ l → s.length + (p x).length < 1000000000000 → L (k + 1) (s, (i : Int)) = L k (s ++ p x, ((i + 1 : Nat) : Int)))
  (hn : s.length + (l.map p).flatten.length < 1000000000000) : L k (s, 0) = some (s ++ (l.map p).flatten) := by
 have key : ∀ (m : List α) (i : Nat) (s : List Int) (k : Nat), l.drop i = m → i ≤ l.length → m.length < k → s.length + (m.map p).flatten.length < 1000000000000 → L k (s, (i : Int)) = some (s ++ (m.map p).flatten) := by
  intro m
  induction m with
  | nil =>
   intro i s k hm hi hk hn
   obtain ⟨k, rfl⟩ : ∃ j, k = j + 1 := ⟨k - 1, by simp at hk; omega⟩
   have : i = l.length := by
    have := congrArg List.length hm
    simp at this; omega
   subst this
   rw [h0]; simp
  | cons x m ih =>
   intro i s k hm hi hk hn
   obtain ⟨k, rfl⟩ : ∃ j, k = j + 1 := ⟨k - 1, by simp at hk; omega⟩
   have hlt : i < l.length := by
    have := congrArg List.length hm
    simp at this; omega
   have hx : l[i]? = some x := by
    have := congrArg (fun (l : List α) => l[0]?) hm
    simpa using this
   have hd : l.drop (i + 1) = m := by rw [← List.drop_drop, hm]; rfl
   simp only [List.map_cons, List.flatten_cons, List.length_append] at hn ⊢
   rw [h1 k s i x hlt (getI_lt hx) (List.mem_of_getElem? hx) (by omega), ih (i + 1) _ k hd (by omega) (by simp at hk; omega) (by rw [List.length_append]; omega)]
   simp
 exact key l 0 s k rfl (by omega) hk hn
/-! ### numbers that are right -/
def numW (n : Int) : List Int := numS n.toNat
theorem num_w {K : Nat} (hK : 1000000000000 ≤ K) {n : Int} (h : 0 ≤ n ∧ n < 2147483648) : wire_Num.f K n = some (numW n) := by
 have := num_eq (K := K) (n := n.toNat) hK (by omega)
 rw [Int.toNat_of_nonneg h.1] at this
 exact this
theorem numW_len {n : Int} (h : 0 ≤ n ∧ n < 2147483648) : (numW n).length ≤ 5 ∧ 0 < (numW n).length := numS_len (by omega)
theorem nums_eq {K : Nat} (hK : 1000000000000 ≤ K) {l : List Int} (hl : l.length < 1000) (h : ∀ n ∈ l, 0 ≤ n ∧ n < 2147483648) : rec_numbers.f K l = some (l.map numW).flatten := by
 unfold rec_numbers.f
 have hlen : ∀ (l : List Int), (∀ n ∈ l, 0 ≤ n ∧ n < 2147483648) → (l.map numW).flatten.length ≤ 5 * l.length := by
  intro l
  induction l with
  | nil => intro _; simp
  | cons a l ih =>
   intro h
   have h1 := ih (fun n hn => h n (by simp [hn]))
   have h2 := numW_len (h a (by simp))
   simp only [List.map_cons, List.flatten_cons, List.length_append, List.length_cons]
   omega
 have hl2 := hlen l h
 have := cat_loop (L := rec_numbers_l1.l K l) l numW [] (k := K) (by omega)
  (fun k s => by
   show rec_numbers_l1.b K l (rec_numbers_l1.l K l k) _ = _
   unfold rec_numbers_l1.b
   rw [bif_false (dec_f (by simp))])
  (fun k s i x hi hx hm hs => by
   show rec_numbers_l1.b K l (rec_numbers_l1.l K l k) _ = _
   unfold rec_numbers_l1.b
   rw [bif_true (dec_t (by simp; omega))]
   simp only
   rw [hx]
   simp only [Option.bind_some]
   rw [num_w hK (h x hm)]
   simp only [Option.bind_some]
   rw [catI_ok (by omega)]
   simp only [Option.bind_some]
   rw [wrap_succ (by omega)])
  (by simp only [List.length_nil]; omega)
 rw [this]
 rfl
/-! ### which records are right -/
def inn (n lo hi : Int) : Bool := decide (lo ≤ n) && decide (n ≤ hi)
theorem inn_iff {n lo hi : Int} : inn n lo hi = true ↔ lo ≤ n ∧ n ≤ hi := by simp [inn]
theorem within_eq {K : Nat} (a b c : Int) : rec_within.f K a b c = some (inn a b c) := by
 unfold rec_within.f inn
 cases decide (b ≤ a) <;> rfl
def stepOk (s : Sp) : Bool := inn s.fPart 0 3 && inn s.fKind 1 3
theorem step_bad {K : Nat} (s : Sp) : rec_ranges_1.f K s = some (!stepOk s) := by
 unfold rec_ranges_1.f stepOk
 rw [within_eq, within_eq]
 simp only [Option.bind_some]
 cases inn s.fPart 0 3 <;> rfl
theorem steps_bad {K : Nat} {l : List Sp} (hK : l.length < K) (hl : l.length < 1000000000000) : slices_ContainsFunc_api_Step_api_Step.f K l = some (!l.all stepOk) := by
 unfold slices_ContainsFunc_api_Step_api_Step.f slices_IndexFunc_api_Step_api_Step.f
 have hL := loop_all (L := slices_IndexFunc_api_Step_api_Step_l1.l K l) (fun (_ : Unit) (i : Nat) => (i : Int)) l (fun _ i x => some (bif stepOk x then .inr () else .inl (.inl ((i : Nat) : Int)))) (fun _ => some (.inr ())) () hK
  (fun k s => by
   show slices_IndexFunc_api_Step_api_Step_l1.b K l (slices_IndexFunc_api_Step_api_Step_l1.l K l k) _ = _
   unfold slices_IndexFunc_api_Step_api_Step_l1.b
   rw [bif_false (dec_f (by simp))])
  (fun k s i x hi hx => by
   show slices_IndexFunc_api_Step_api_Step_l1.b K l (slices_IndexFunc_api_Step_api_Step_l1.l K l k) _ = _
   unfold slices_IndexFunc_api_Step_api_Step_l1.b
   rw [bif_true (dec_t (by omega)), getI_lt hx]
   simp only [Option.bind_some]
   rw [step_bad]
   simp only [Option.bind_some]
   rw [wrap_succ (by omega)]
   cases stepOk x <;> rfl)
 have hL : slices_IndexFunc_api_Step_api_Step_l1.l K l K 0 = _ := hL
 obtain ⟨r1, r2⟩ := run_find (good := stepOk) (v := fun i => ((i : Nat) : Int)) (l := l) (s := ()) (i := 0) (f := fun _ i x => some (bif stepOk x then .inr () else .inl (.inl ((i : Nat) : Int)))) (fun s i x _ => rfl)
 cases hg : l.all stepOk with
 | true => rw [hL, r1 hg]; rfl
 | false =>
  obtain ⟨j, _, _, hj⟩ := r2 hg
  rw [hL, hj]
  simp only [Option.bind_some, Bool.not_false]
  rw [dec_t (by omega)]
def rangesS (x : Rc) : Bool :=
 inn x.fSaga 0 11 && (inn x.fPart 0 3 && (inn x.fEpoch 0 400 &&
  (bif decide (x.fKind = 1) then inn (x.fSteps.length : Int) 1 6 && (x.fSteps.all stepOk && decide ((x.fData.length : Int) ≤ 60))
   else bif decide (x.fKind = 2) || (decide (x.fKind = 4) || decide (x.fKind = 3)) then inn x.fSeq 1 400 && (inn x.fStep 0 5 && inn x.fTry 1 9)
   else bif decide (x.fKind = 5) then inn x.fSeq 1 400 && inn x.fEnd 2 4
   else decide (x.fKind = 6) && decide (1 ≤ x.fEpoch))))
theorem ranges_eq {K : Nat} {x : Rc} (hK : x.fSteps.length < K) (hl : x.fSteps.length < 1000000000000) : rec_ranges.f K x = some (rangesS x) := by
 unfold rec_ranges.f rangesS
 simp only [jn, within_eq, steps_bad hK hl, Option.bind_some]
 cases inn x.fSaga 0 11
 ·rfl
 cases inn x.fPart 0 3
 ·rfl
 cases inn x.fEpoch 0 400
 ·rfl
 cases decide (x.fKind = 1)
 ·cases decide (x.fKind = 2)
  ·cases decide (x.fKind = 4)
   ·cases decide (x.fKind = 3)
    ·cases decide (x.fKind = 5)
     ·cases decide (x.fKind = 6) <;> rfl
     ·cases inn x.fSeq 1 400 <;> rfl
    ·cases inn x.fSeq 1 400
     ·rfl
     ·cases inn x.fStep 0 5 <;> rfl
   ·cases inn x.fSeq 1 400
    ·rfl
    ·cases inn x.fStep 0 5 <;> rfl
  ·cases inn x.fSeq 1 400
   ·rfl
   ·cases inn x.fStep 0 5 <;> rfl
 ·cases inn (x.fSteps.length : Int) 1 6
  ·rfl
  cases x.fSteps.all stepOk <;> rfl
def keptS (x : Rc) : Rc :=
 if x.fKind = 1 then
  (bif x.fGone then { zRc with fKind := x.fKind, fSaga := x.fSaga, fSteps := x.fSteps, fGone := x.fGone, fCom := x.fCom }
   else { zRc with fKind := x.fKind, fSaga := x.fSaga, fSteps := x.fSteps, fGone := x.fGone, fData := x.fData, fSalt := x.fSalt })
 else if x.fKind = 3 then { zRc with fKind := x.fKind, fGood := x.fGood, fPart := x.fPart, fEpoch := x.fEpoch, fTag := x.fTag, fSaga := x.fSaga, fSeq := x.fSeq, fStep := x.fStep, fTry := x.fTry, fBack := x.fBack }
 else if x.fKind = 2 ∨ x.fKind = 4 then { zRc with fKind := x.fKind, fSaga := x.fSaga, fSeq := x.fSeq, fStep := x.fStep, fTry := x.fTry, fBack := x.fBack }
 else if x.fKind = 5 then { zRc with fKind := x.fKind, fSaga := x.fSaga, fSeq := x.fSeq, fEnd := x.fEnd }
 else if x.fKind = 6 then { zRc with fKind := x.fKind, fPart := x.fPart, fEpoch := x.fEpoch }
 else { zRc with fKind := x.fKind }
theorem kept_eq {K : Nat} (x : Rc) : rec_kept.f K x = some (keptS x) := by
 unfold rec_kept.f keptS
 simp only [jn, Option.bind_some]
 by_cases h1 : x.fKind = 1
 ·rw [bif_true (dec_t h1), if_pos h1]
  cases x.fGone <;> rfl
 rw [bif_false (dec_f h1), if_neg h1]
 by_cases h3 : x.fKind = 3
 ·rw [bif_true (dec_t h3), if_pos h3]
 rw [bif_false (dec_f h3), if_neg h3]
 by_cases h2 : x.fKind = 2
 ·rw [bif_true (dec_t h2), bif_true (dec_t h2), if_pos (.inl h2)]
 rw [bif_false (dec_f h2)]
 by_cases h4 : x.fKind = 4
 ·rw [bif_true (dec_t h4), if_pos (.inr h4)]
 rw [bif_false (dec_f h4), if_neg (by simp [h2, h4])]
 by_cases h5 : x.fKind = 5
 ·rw [bif_true (dec_t h5), if_pos h5]
 rw [bif_false (dec_f h5), if_neg h5]
 by_cases h6 : x.fKind = 6
 ·rw [bif_true (dec_t h6), if_pos h6]
 rw [bif_false (dec_f h6), if_neg h6]
/-! ### which records are the same -/
theorem steps_same {K : Nat} {l m : List Sp} (hK : l.length < K) (hl : l.length < 1000000000000) : slices_Equal_api_Step_api_Step.f K l m = some (decide (l = m)) := by
 unfold slices_Equal_api_Step_api_Step.f
 by_cases hlm : l.length = m.length
 ·rw [bif_false (by simp [hlm])]
  have hz : (l.zip m).length = l.length := by simp [hlm]
  have hL := loop_all (L := slices_Equal_api_Step_api_Step_l1.l K l m) (fun (_ : Unit) (i : Nat) => (i : Int)) (l.zip m) (fun _ i x => some (bif decide (x.1 = x.2) then .inr () else .inl (.inl false))) (fun _ => some (.inr ())) () (by rw [hz]; exact hK)
   (fun k s => by
    show slices_Equal_api_Step_api_Step_l1.b K l m (slices_Equal_api_Step_api_Step_l1.l K l m k) _ = _
    unfold slices_Equal_api_Step_api_Step_l1.b
    rw [bif_false (dec_f (by rw [hz]; simp))])
   (fun k s i x hi hx => by
    obtain ⟨hx1, hx2⟩ := zip_get hx
    show slices_Equal_api_Step_api_Step_l1.b K l m (slices_Equal_api_Step_api_Step_l1.l K l m k) _ = _
    unfold slices_Equal_api_Step_api_Step_l1.b
    rw [bif_true (dec_t (by omega)), getI_lt hx1, getI_lt hx2]
    simp only [Option.bind_some]
    rw [wrap_succ (by omega)]
    have : (decide (x.1.fPart = x.2.fPart) && (decide (x.1.fKind = x.2.fKind) && true)) = decide (x.1 = x.2) := by
     rw [Bool.eq_iff_iff]
     obtain ⟨⟨a, b⟩, ⟨c, d⟩⟩ := x
     simp
    rw [this]
    cases decide (x.1 = x.2) <;> rfl)
  have hL : slices_Equal_api_Step_api_Step_l1.l K l m K 0 = _ := hL
  obtain ⟨r1, r2⟩ := run_find (good := fun (x : Sp × Sp) => decide (x.1 = x.2)) (v := fun _ => false) (l := l.zip m) (s := ()) (i := 0) (f := fun _ i x => some (bif decide (x.1 = x.2) then .inr () else .inl (.inl false))) (fun s i x _ => rfl)
  rw [zip_all_eq hlm] at r1 r2
  cases hg : decide (l = m) with
  | true => rw [hL, r1 hg]; rfl
  | false =>
   obtain ⟨j, _, _, hj⟩ := r2 hg
   rw [hL, hj]; rfl
 ·rw [bif_true (by simp; omega), dec_f (fun e => hlm (by rw [e]))]
theorem bytes_same {K : Nat} {l m : List Int} (hl : isB l) (hm : isB m) : bytes_Equal.f K l m = some (decide (l = m)) := by
 unfold bytes_Equal.f
 rw [bofL_toList, bofL_toList]
 congr 1
 rw [Bool.eq_iff_iff]
 simp only [beq_iff_eq, decide_eq_true_eq]
 exact ⟨fun h => u8s_inj hl hm h, fun h => by rw [h]⟩
def okD (x : Rc) : Prop := isB x.fData ∧ x.fData.length < 1000000000 ∧ x.fSteps.length < 1000000000
theorem rec_same {K : Nat} (hK : 1000000000000 ≤ K) {a b : Rc} (ha : okD a) (hb : okD b) : rec_Same.f K a b = some (decide (a = b)) := by
 unfold rec_Same.f rec_head.f
 simp only [jn, Option.bind_some]
 rw [steps_same (by have := ha.2.2; omega) (by have := ha.2.2; omega), bytes_same ha.1 hb.1]
 simp only [Option.bind_some]
 obtain ⟨a1, a2, a3, a4, a5, a6, a7, a8, a9, a10, a11, a12, a13, a14, a15, a16⟩ := a
 obtain ⟨b1, b2, b3, b4, b5, b6, b7, b8, b9, b10, b11, b12, b13, b14, b15, b16⟩ := b
 simp only
 rw [Bool.and_true]
 by_cases h12 : a12 = b12
 ·subst h12
  rw [bif_false (by simp)]
  by_cases h13 : a13 = b13
  ·subst h13
   rw [bif_false (by simp)]
   by_cases h11 : a11 = b11
   ·subst h11
    by_cases h14 : a14 = b14
    ·subst h14
     simp only [decide_true, cond_true]
     rw [cond_eq_ite]
     split
     ·rename_i h
      simp only [Bool.and_eq_true, decide_eq_true_eq, beq_iff_eq] at h
      congr 1
      rw [Bool.eq_iff_iff]
      simp only [decide_eq_true_eq, T_api_Rec.mk.injEq, true_and]
      simp only [h, true_and]
     ·rename_i h
      congr 1
      symm
      apply dec_f
      intro he
      simp only [T_api_Rec.mk.injEq] at he
      apply h
      simp [he]
    ·rw [dec_f h14]
     have : ¬ (T_api_Rec.mk a1 a2 a3 a4 a5 a6 a7 a8 a9 a10 a11 a12 a13 a14 a15 a16 = T_api_Rec.mk b1 b2 b3 b4 b5 b6 b7 b8 b9 b10 a11 a12 a13 b14 b15 b16) := fun e => h14 (by simp only [T_api_Rec.mk.injEq] at e; exact e.2.2.2.2.2.2.2.2.2.2.2.2.2.1)
     rw [dec_f this]
     simp
   ·rw [dec_f h11]
    have : ¬ (T_api_Rec.mk a1 a2 a3 a4 a5 a6 a7 a8 a9 a10 a11 a12 a13 a14 a15 a16 = T_api_Rec.mk b1 b2 b3 b4 b5 b6 b7 b8 b9 b10 b11 a12 a13 b14 b15 b16) := fun e => h11 (by simp only [T_api_Rec.mk.injEq] at e; exact e.2.2.2.2.2.2.2.2.2.2.1)
    rw [dec_f this]
    simp
  ·rw [bif_true (by simp [h13])]
   exact congrArg some (dec_f (fun e => h13 (by simp only [T_api_Rec.mk.injEq] at e; exact e.2.2.2.2.2.2.2.2.2.2.2.2.1))).symm
 ·rw [bif_true (by simp [h12])]
  exact congrArg some (dec_f (fun e => h12 (by simp only [T_api_Rec.mk.injEq] at e; exact e.2.2.2.2.2.2.2.2.2.2.2.1))).symm
def rightS (x : Rc) : Bool := rangesS x && decide (x = keptS x)
theorem okD_kept {x : Rc} (h : okD x) : okD (keptS x) := by
 unfold keptS okD
 split
 ·cases x.fGone
  ·exact h
  ·exact ⟨isB_nil, by simp, h.2.2⟩
 all_goals (repeat' split)
 all_goals exact ⟨isB_nil, by simp, by simp⟩
theorem right_eq {K : Nat} (hK : 1000000000000 ≤ K) {x : Rc} (h : okD x) : rec_Right.f K x = some (rightS x) := by
 unfold rec_Right.f rightS
 rw [ranges_eq (by have := h.2.2; omega) (by have := h.2.2; omega)]
 simp only [Option.bind_some]
 cases rangesS x
 ·rfl
 ·rw [kept_eq]
  simp only [Option.bind_some, cond_true]
  rw [rec_same hK h (okD_kept h)]
  rfl
end Go.Proofs.YtjgaokcplofimaaDoor
