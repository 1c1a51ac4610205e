/-
 The plain law of ExportAll.
-/
import Derived.Test.YtjgaokcplofimaaDoorPureEz
namespace Go.Proofs.YtjgaokcplofimaaDoor
open Go Go.Sep
theorem alive18 : inspeximuslaw18_alive.f 1000000000000 = some true := by kernel_rfl
theorem all_l1 {p : T_api_Point} {n : Nat} (hn : p.fSize = (n : Int)) (h50 : n ≤ 50) : inspeximuslaw18_ExportAll_l1.l 1000000000000 p 1000000000000 ([], 0) = some ((List.range' 0 n).map Int.ofNat) := by
 have key : ∀ (m i k : Nat), i + m = n → m < k → inspeximuslaw18_ExportAll_l1.l 1000000000000 p k ((List.range' 0 i).map Int.ofNat, (i : Int)) = some ((List.range' 0 n).map Int.ofNat) := by
  intro m
  induction m with
  | zero =>
   intro i k hi hk
   obtain ⟨k, rfl⟩ : ∃ j, k = j + 1 := ⟨k - 1, by omega⟩
   show inspeximuslaw18_ExportAll_l1.b 1000000000000 p (inspeximuslaw18_ExportAll_l1.l 1000000000000 p k) _ = _
   unfold inspeximuslaw18_ExportAll_l1.b
   rw [bif_false (dec_f (by simp only; omega)), show i = n by omega]
  | succ m ih =>
   intro i k hi hk
   obtain ⟨k, rfl⟩ : ∃ j, k = j + 1 := ⟨k - 1, by omega⟩
   show inspeximuslaw18_ExportAll_l1.b 1000000000000 p (inspeximuslaw18_ExportAll_l1.l 1000000000000 p k) _ = _
   unfold inspeximuslaw18_ExportAll_l1.b
   rw [bif_true (dec_t (by simp only; omega)), bnd (catI_ok (by simp only [List.length_singleton, List.length_map, List.length_range']; omega))]
   try dsimp only
   rw [wrap_succ (by omega), ← ih (i + 1) k (by omega) (by omega), List.range'_concat]
   simp
 exact key n 0 1000000000000 (by omega) (by omega)
theorem law_ExportAll {K : Nat} (hK : K = 1000000000000) (l : List Rc) (p : T_api_Point) (mask : Int) (hd : ∀ x ∈ l, isB x.fData) : inspeximuslaw18_ExportAll.f K l p mask = some true := by
 subst hK
 have hK : (1000000000000 : Nat) ≤ 1000000000000 := Nat.le_refl _
 unfold inspeximuslaw18_ExportAll.f
 rw [bnd alive18, bif_false (by rfl), bnd (few_eq l p)]
 cases hf : fewE l p with
 | false => rfl
 | true =>
 have h := few_ok hf hd
 have h50 := h.len
 rw [bif_false (by rfl), bnd (whole_eq h mask), bnd (range_eq h mask 0 (l.length : Int)), made_whole h, made_some h (pl := placesE l p (selR 0 (l.length : Int))) placesE_lt places_sorted places_len]
 cases hg : gd l p && pointOk p with
 | false => rfl
 | true =>
 simp only [cond_true]
 rw [bif_false (by simp), bif_false (by rfl)]
 have hg1 : gd l p = true := by cases hh : gd l p with | true => rfl | false => rw [hh] at hg; cases hg
 obtain ⟨hr, n, hn, hn2⟩ := gd_iff hg1
 have hP : ∀ sel : Nat → Bool, (∀ i, i < n → sel i = true) → placesE l p sel = List.range' 0 n := fun sel hs => places_all hn hs
 have hsel : ∀ i, i < n → selR 0 (l.length : Int) i = true := fun i hi => by
  unfold selR
  rw [dec_t (by omega), dec_t (by omega)]; rfl
 rw [hP _ (fun _ _ => rfl), hP _ hsel, bnd (all_l1 hn (by omega))]
 have hat : ((List.range' 0 n).map Int.ofNat).length ≤ 60 := by rw [List.length_map, List.length_range']; omega
 have hgood : goodA p ((List.range' 0 n).map Int.ofNat) = true := by
  unfold goodA
  refine List.all_eq_true.2 fun x hx => ?_
  obtain ⟨i, hi, rfl⟩ := List.mem_map.1 hx
  have := (List.mem_range'_1.1 hi).2
  show (decide (0 ≤ (i : Int)) && decide ((i : Int) < p.fSize)) = true
  rw [dec_t (by omega), dec_t (by omega)]; rfl
 have hback : ((List.range' 0 n).map Int.ofNat).map Int.toNat = List.range' 0 n := by
  rw [List.map_map]
  exact (List.map_congr_left (fun i _ => rfl)).trans (List.map_id _)
 have hm := made_some h (mask := mask) (pl := placesE l p (selR 0 (l.length : Int))) placesE_lt places_sorted places_len
 rw [hP _ hsel, hg] at hm
 have hs := some_eq h mask hat
 rw [hgood, hback, hm] at hs
 simp only [cond_true] at hs
 rw [bnd hs]
 have hlt : ∀ i ∈ List.range' 0 n, (i : Int) < p.fSize := fun i hi => by have := (List.mem_range'_1.1 hi).2; omega
 have hbo : okBun (bunE l p mask false (List.range' 0 n)) := bunE_ok h hg1 hlt (by rw [List.length_range']; omega)
 have e1 : ∀ w, (bunE l p mask w (List.range' 0 n)).fItems.length = n := fun w => by
  show ((List.range' 0 n).map _).length = n
  rw [List.length_map, List.length_range']
 have hget : ∀ w i, i < n → (bunE l p mask w (List.range' 0 n)).fItems[i]? = some (gE l mask w (hashE l p) i) := fun w i hi => by
  show ((List.range' 0 n).map _)[i]? = _
  rw [List.getElem?_map, List.getElem?_range' hi]
  simp
 refine Eq.trans (jn_val false (fun j => ?_)) ?_
 ·try dsimp only
  rw [bif_false (by rfl), bnd (q17_same hK hbo), dec_t rfl, bif_false (by rfl), dec_t (show (((bunE l p mask true (List.range' 0 n)).fItems.length : Nat) : Int) = (((bunE l p mask false (List.range' 0 n)).fItems.length : Nat) : Int) by rw [e1, e1])]
  rfl
 ·try dsimp only
  rw [bif_false (by rfl)]
  have hL := loop_thru (L := inspeximuslaw18_ExportAll_l2.l 1000000000000 (bunE l p mask true (List.range' 0 n), true) (bunE l p mask false (List.range' 0 n), true)) (n := n) (r := Sum.inr ())
   (fun k => by
    show inspeximuslaw18_ExportAll_l2.b 1000000000000 _ _ (inspeximuslaw18_ExportAll_l2.l 1000000000000 _ _ k) _ = _
    unfold inspeximuslaw18_ExportAll_l2.b
    rw [bif_false (dec_f (by simp only [e1]; omega))])
   (fun k i hi => by
    show inspeximuslaw18_ExportAll_l2.b 1000000000000 _ _ (inspeximuslaw18_ExportAll_l2.l 1000000000000 _ _ k) _ = _
    unfold inspeximuslaw18_ExportAll_l2.b
    rw [bif_true (dec_t (by simp only [e1]; omega))]
    refine Eq.trans (jn_val false (fun j => ?_)) ?_
    ·try dsimp only
     rw [bnd (getI_lt (hget true i hi)), bnd (getI_lt (hget false i hi)), bnd (rrec_same hK (gE_ok h hg1 (by omega)).2.1), dec_t (show (gE l mask true (hashE l p) i).fRec = (gE l mask false (hashE l p) i).fRec from rfl), bif_false (by rfl), bnd (getI_lt (hget true i hi)), bnd (getI_lt (hget false i hi)), dec_t (show (gE l mask true (hashE l p) i).fAt = (gE l mask false (hashE l p) i).fAt from rfl)]
     rfl
    ·try dsimp only
     rw [wrap_succ (by omega)]
     rfl)
   n 0 1000000000000 (by omega) (by omega)
  have hL : inspeximuslaw18_ExportAll_l2.l 1000000000000 (bunE l p mask true (List.range' 0 n), true) (bunE l p mask false (List.range' 0 n), true) 1000000000000 0 = some (.inr ()) := hL
  rw [bnd hL]
end Go.Proofs.YtjgaokcplofimaaDoor
