/-
 Plain: bundles: which are too great, right, the same.
-/
import Derived.Test.YtjgaokcplofimaaDoorPureDx
namespace Go.Proofs.YtjgaokcplofimaaDoor
open Go Go.Sep
abbrev Bun := T_api_Bundle
abbrev It := T_api_Item
abbrev Sg := T_api_Sig
abbrev zBun : Bun := z_T_api_Bundle
structure okItem (x : It) : Prop where
 d : okD x.fRec
 p : x.fPath.length < 1000000000
structure okBun (x : Bun) : Prop where
 sigs : x.fPoint.fSigs.length < 1000000000
 len : x.fItems.length < 1000000000
 items : ∀ y ∈ x.fItems, okItem y
/-! ### right -/
theorem bwithin_eq {K : Nat} (a b c : Int) : bundle_within.f K a b c = some (inn a b c) := by
 unfold bundle_within.f inn
 cases decide (b ≤ a) <;> rfl
def sigOk (s : Sg) : Bool := inn s.fWit 0 3
theorem sig_bad {K : Nat} (s : Sg) : bundle_point_1.f K s = some (!sigOk s) := by
 unfold bundle_point_1.f sigOk
 rw [bwithin_eq]; rfl
theorem sigs_bad {K : Nat} {l : List Sg} (hK : l.length < K) (hl : l.length < 1000000000000) : slices_ContainsFunc_api_Sig_api_Sig.f K l = some (!l.all sigOk) := by
 unfold slices_ContainsFunc_api_Sig_api_Sig.f slices_IndexFunc_api_Sig_api_Sig.f
 have hL := loop_all (L := slices_IndexFunc_api_Sig_api_Sig_l1.l K l) (fun (_ : Unit) (i : Nat) => (i : Int)) l (fun _ i x => some (bif sigOk x then .inr () else .inl (.inl ((i : Nat) : Int)))) (fun _ => some (.inr ())) () hK
  (fun k s => by
   show slices_IndexFunc_api_Sig_api_Sig_l1.b K l (slices_IndexFunc_api_Sig_api_Sig_l1.l K l k) _ = _
   unfold slices_IndexFunc_api_Sig_api_Sig_l1.b
   rw [bif_false (dec_f (by simp))])
  (fun k s i x hi hx => by
   show slices_IndexFunc_api_Sig_api_Sig_l1.b K l (slices_IndexFunc_api_Sig_api_Sig_l1.l K l k) _ = _
   unfold slices_IndexFunc_api_Sig_api_Sig_l1.b
   rw [bif_true (dec_t (by omega)), getI_lt hx]
   simp only [Option.bind_some]
   rw [sig_bad]
   simp only [Option.bind_some]
   rw [wrap_succ (by omega)]
   cases sigOk x <;> rfl)
 have hL : slices_IndexFunc_api_Sig_api_Sig_l1.l K l K 0 = _ := hL
 obtain ⟨r1, r2⟩ := run_find (good := sigOk) (v := fun i => ((i : Nat) : Int)) (l := l) (s := ()) (i := 0) (f := fun _ i x => some (bif sigOk x then .inr () else .inl (.inl ((i : Nat) : Int)))) (fun s i x _ => rfl)
 cases hg : l.all sigOk with
 | true => rw [hL, r1 hg]; rfl
 | false =>
  obtain ⟨j, _, _, hj⟩ := r2 hg
  rw [hL, hj]
  simp only [Option.bind_some, Bool.not_false]
  rw [dec_t (by omega)]
def pointOk (p : T_api_Point) : Bool := inn p.fSize 0 400 && (decide ((p.fSigs.length : Int) ≤ 4) && p.fSigs.all sigOk)
theorem point_eq {K : Nat} {p : T_api_Point} (hK : p.fSigs.length < K) (hl : p.fSigs.length < 1000000000000) : bundle_point.f K p = some (pointOk p) := by
 unfold bundle_point.f pointOk
 rw [bwithin_eq]
 simp only [Option.bind_some]
 cases inn p.fSize 0 400
 ·rfl
 simp only [cond_true, Bool.true_and]
 cases decide ((p.fSigs.length : Int) ≤ 4)
 ·rfl
 simp only [cond_true, Bool.true_and]
 rw [sigs_bad hK hl]
 simp
def itemOk (whole : Bool) (size last : Int) (i : Nat) (x : It) : Bool :=
 rightS x.fRec && (inn x.fAt (last + 1) (size - 1) && (decide ((x.fPath.length : Int) ≤ 20) && (!whole || (decide (x.fAt = (i : Int)) && decide (x.fPath.length = 0)))))
def itemsOk (whole : Bool) (size : Int) : Int → Nat → List It → Bool
 | _, _, [] => true
 | last, i, x :: l => itemOk whole size last i x && itemsOk whole size x.fAt (i + 1) l
def rightB (x : Bun) : Bool :=
 pointOk x.fPoint && (decide ((x.fItems.length : Int) ≤ x.fPoint.fSize) && ((!x.fWhole || decide ((x.fItems.length : Int) = x.fPoint.fSize)) && itemsOk x.fWhole x.fPoint.fSize (-1) 0 x.fItems))
theorem run_items {whole : Bool} {size : Int} (hs : 0 ≤ size ∧ size ≤ 400) : ∀ {l : List It} {last : Int} {i : Nat} {f : Int → Nat → It → Option (Sum (Sum Bool Unit) Int)}, -1 ≤ last ∧ last < 400 →
  (∀ last i x, x ∈ l → -1 ≤ last ∧ last < 400 → f last i x = some (bif itemOk whole size last i x then .inr x.fAt else .inl (.inl false))) →
  runL f (fun _ => some (.inr ())) last i l = some (bif itemsOk whole size last i l then .inr () else .inl false) := by
 intro l
 induction l with
 | nil => intro last i f _ _; rfl
 | cons x l ih =>
  intro last i f hl hf
  unfold runL itemsOk
  rw [hf last i x (by simp) hl]
  cases hg : itemOk whole size last i x with
  | false => rfl
  | true =>
   have h2 : inn x.fAt (last + 1) (size - 1) = true := by
    unfold itemOk at hg
    simp only [Bool.and_eq_true] at hg
    exact hg.2.1
   have h2 := inn_iff.1 h2
   exact ih (by omega) (fun last i y hy => hf last i y (by simp [hy]))
theorem rightB_eq {K : Nat} (hK : 1000000000000 ≤ K) {x : Bun} (hx : okBun x) : bundle_Right.f K x = some (rightB x) := by
 unfold bundle_Right.f rightB
 have hs := hx.sigs
 have hl := hx.len
 rw [point_eq (by omega) (by omega)]
 simp only [jn, Option.bind_some]
 cases hp : pointOk x.fPoint
 ·rfl
 have hsz : 0 ≤ x.fPoint.fSize ∧ x.fPoint.fSize ≤ 400 := by
  unfold pointOk at hp
  simp only [Bool.and_eq_true] at hp
  exact inn_iff.1 hp.1
 rw [bif_false (by rfl)]
 simp only [Bool.true_and]
 by_cases h1 : x.fPoint.fSize < (x.fItems.length : Int)
 ·rw [bif_true (dec_t h1), dec_f (show ¬ (x.fItems.length : Int) ≤ x.fPoint.fSize by omega)]; rfl
 rw [bif_false (dec_f h1), dec_t (show (x.fItems.length : Int) ≤ x.fPoint.fSize by omega)]
 simp only [Bool.true_and]
 have hL : bundle_Right_l1.l K x K (-1, 0) = some (bif itemsOk x.fWhole x.fPoint.fSize (-1) 0 x.fItems then .inr () else .inl false) := by
  have hL := loop_all (L := bundle_Right_l1.l K x) (fun (s : Int) (i : Nat) => (s, (i : Int))) x.fItems
   (fun last i y => some (bif rightS y.fRec && (inn y.fAt (IntKind.wrap .i64 (last + 1)) (x.fPoint.fSize - 1) && (decide ((y.fPath.length : Int) ≤ 20) && (!x.fWhole || (decide (y.fAt = (i : Int)) && decide (y.fPath.length = 0))))) then .inr y.fAt else .inl (.inl false)))
   (fun _ => some (.inr ())) (-1) (k := K) (by omega)
   (fun k s => by
    show bundle_Right_l1.b K x (bundle_Right_l1.l K x k) _ = _
    unfold bundle_Right_l1.b
    rw [bif_false (dec_f (by simp))])
   (fun k s i y hi hy => by
    have hym := List.mem_of_getElem? hy
    show bundle_Right_l1.b K x (bundle_Right_l1.l K x k) _ = _
    unfold bundle_Right_l1.b
    rw [bif_true (dec_t (by simp; omega))]
    simp only
    rw [getI_lt hy]
    simp only [jn, Option.bind_some]
    rw [right_eq hK (hx.items y hym).d, bwithin_eq]
    simp only [Option.bind_some]
    rw [wrap64 (n := x.fPoint.fSize - 1) (by omega) (by omega), wrap_succ (by omega)]
    cases rightS y.fRec
    ·rfl
    cases inn y.fAt (IntKind.wrap .i64 (s + 1)) (x.fPoint.fSize - 1)
    ·rfl
    by_cases h20 : (20 : Int) < (y.fPath.length : Int)
    ·rw [dec_t h20, dec_f (show ¬ (y.fPath.length : Int) ≤ 20 by omega)]; rfl
    rw [dec_f h20, dec_t (show (y.fPath.length : Int) ≤ 20 by omega)]
    cases x.fWhole
    ·rfl
    cases decide (y.fAt = (i : Int))
    ·rfl
    by_cases h0 : y.fPath.length = 0
    ·rw [dec_t h0, dec_f (show ¬ (0 : Int) < (y.fPath.length : Int) by omega)]; rfl
    ·rw [dec_f h0, dec_t (show (0 : Int) < (y.fPath.length : Int) by omega)]; rfl)
  have hL : bundle_Right_l1.l K x K (-1, 0) = _ := hL
  rw [hL]
  refine run_items hsz (by omega) (fun last i y hy hl => ?_)
  rw [wrap64 (by omega) (by omega)]
  rfl
 have fin : (((bundle_Right_l1.l K x K (-1, 0)).bind fun s1906 => (match s1906 with | .inl u1907 => some u1907 | .inr u1908 => (fun (_ : Unit) => (some true)) u1908)) : Option Bool) = some (itemsOk x.fWhole x.fPoint.fSize (-1) 0 x.fItems) := by
  rw [hL]
  cases itemsOk x.fWhole x.fPoint.fSize (-1) 0 x.fItems <;> rfl
 generalize itemsOk x.fWhole x.fPoint.fSize (-1) 0 x.fItems = v at fin ⊢
 cases x.fWhole with
 | false => exact fin
 | true =>
  simp only [cond_true, Bool.not_true, Bool.false_or]
  cases decide ((x.fItems.length : Int) = x.fPoint.fSize)
  ·rfl
  ·exact fin
/-! ### the same -/
end Go.Proofs.YtjgaokcplofimaaDoor
