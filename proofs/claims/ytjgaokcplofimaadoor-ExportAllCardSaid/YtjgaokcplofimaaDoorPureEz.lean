/-
 Plain: the document's comparisons of records and bundles, and when an exported bundle is right.
-/
import Derived.Test.YtjgaokcplofimaaDoorPureRs
namespace Go.Proofs.YtjgaokcplofimaaDoor
open Go Go.Sep
theorem rsteps_same {K : Nat} {l m : List Sp} (hK : l.length < K) (hl : l.length < 1000000000000) : inspeximusref04_Steps.f K l m = some (decide (l = m)) := by
 unfold inspeximusref04_Steps.f
 by_cases hlm : l.length = m.length
 ·rw [bif_false (by simp [hlm])]
  have hz : (l.zip m).length = l.length := by simp [hlm]
  have hL := loop_all (L := inspeximusref04_Steps_l1.l K l m) (fun (_ : Unit) (i : Nat) => (i : Int)) (l.zip m) (fun _ i x => some (bif decide (x.1 = x.2) then .inr () else .inl (.inl false))) (fun _ => some (.inr ())) () (by rw [hz]; exact hK)
   (fun k s => by
    show inspeximusref04_Steps_l1.b K l m (inspeximusref04_Steps_l1.l K l m k) _ = _
    unfold inspeximusref04_Steps_l1.b
    rw [bif_false (dec_f (by rw [hz]; simp))])
   (fun k s i x hi hx => by
    obtain ⟨hx1, hx2⟩ := zip_get hx
    show inspeximusref04_Steps_l1.b K l m (inspeximusref04_Steps_l1.l K l m k) _ = _
    unfold inspeximusref04_Steps_l1.b
    rw [bif_true (dec_t (by omega)), getI_lt hx1, getI_lt hx2]
    simp only [Option.bind_some]
    rw [wrap_succ (by omega)]
    have : (decide (x.1.fPart = x.2.fPart) && (decide (x.1.fKind = x.2.fKind) && true)) = decide (x.1 = x.2) := by
     rw [Bool.eq_iff_iff]
     obtain ⟨⟨a, b⟩, ⟨c, d⟩⟩ := x
     simp
    rw [this]
    cases decide (x.1 = x.2) <;> rfl)
  have hL : inspeximusref04_Steps_l1.l K l m K 0 = _ := hL
  obtain ⟨r1, r2⟩ := run_find (good := fun (x : Sp × Sp) => decide (x.1 = x.2)) (v := fun _ => false) (l := l.zip m) (s := ()) (i := 0) (f := fun _ i x => some (bif decide (x.1 = x.2) then .inr () else .inl (.inl false))) (fun s i x _ => rfl)
  rw [zip_all_eq hlm] at r1 r2
  cases hg : decide (l = m) with
  | true => rw [hL, r1 hg]; rfl
  | false =>
   obtain ⟨j, _, _, hj⟩ := r2 hg
   rw [hL, hj]; rfl
 ·rw [bif_true (by simp; omega), dec_f (fun e => hlm (by rw [e]))]
theorem rrec_same {K : Nat} (hK : 1000000000000 ≤ K) {a b : Rc} (ha : okD a) : inspeximusref04_Same.f K a b = some (decide (a = b)) := by
 unfold inspeximusref04_Same.f jn
 rw [rsteps_same (by have := ha.2.2; omega) (by have := ha.2.2; omega), ref_same (by have := ha.2.1; omega) (by have := ha.2.1; omega)]
 simp only [Option.bind_some]
 obtain ⟨a1, a2, a3, a4, a5, a6, a7, a8, a9, a10, a11, a12, a13, a14, a15, a16⟩ := a
 obtain ⟨b1, b2, b3, b4, b5, b6, b7, b8, b9, b10, b11, b12, b13, b14, b15, b16⟩ := b
 simp only
 have key : ∀ c d : Bool, (bif c then some d else some false) = some (c && d) := fun c d => by cases c <;> rfl
 simp only [key]
 congr 1
 rw [Bool.eq_iff_iff]
 simp only [Bool.and_eq_true, decide_eq_true_eq, beq_iff_eq, T_api_Rec.mk.injEq]
/-! ### the same -/
theorem q05_same {K : Nat} {l m : List H32} (hK : l.length < K) (hl : l.length < 1000000000000) : inspeximusref05_Same.f K l m = some (decide (l = m)) := by
 unfold inspeximusref05_Same.f
 by_cases hlm : l.length = m.length
 ·rw [bif_false (by simp [hlm])]
  have hz : (l.zip m).length = l.length := by simp [hlm]
  have hL := loop_all (L := inspeximusref05_Same_l1.l K l m) (fun (_ : Unit) (i : Nat) => (i : Int)) (l.zip m) (fun _ i x => some (bif decide (x.1 = x.2) then .inr () else .inl (.inl false))) (fun _ => some (.inr ())) () (by rw [hz]; exact hK)
   (fun k s => by
    show inspeximusref05_Same_l1.b K l m (inspeximusref05_Same_l1.l K l m k) _ = _
    unfold inspeximusref05_Same_l1.b
    rw [bif_false (dec_f (by rw [hz]; simp))])
   (fun k s i x hi hx => by
    obtain ⟨hx1, hx2⟩ := zip_get hx
    show inspeximusref05_Same_l1.b K l m (inspeximusref05_Same_l1.l K l m k) _ = _
    unfold inspeximusref05_Same_l1.b
    rw [bif_true (dec_t (by omega)), getI_lt hx1, getI_lt hx2]
    simp only [Option.bind_some]
    rw [wrap_succ (by omega)]
    cases decide (x.1 = x.2) <;> rfl)
  have hL : inspeximusref05_Same_l1.l K l m K 0 = _ := hL
  obtain ⟨r1, r2⟩ := run_find (good := fun (x : H32 × H32) => decide (x.1 = x.2)) (v := fun _ => false) (l := l.zip m) (s := ()) (i := 0) (f := fun _ i x => some (bif decide (x.1 = x.2) then .inr () else .inl (.inl false))) (fun s i x _ => rfl)
  rw [zip_all_eq hlm] at r1 r2
  cases hg : decide (l = m) with
  | true => rw [hL, r1 hg]; rfl
  | false =>
   obtain ⟨j, _, _, hj⟩ := r2 hg
   rw [hL, hj]; rfl
 ·rw [bif_true (by simp; omega), dec_f (fun e => hlm (by rw [e]))]
theorem q10_loop {K : Nat} {p q : T_api_Point} (hlm : p.fSigs.length = q.fSigs.length) (hK : p.fSigs.length < K) (hl : p.fSigs.length < 1000000000000) : inspeximusref10_Points_l1.l K p q K 0 = some (bif decide (p.fSigs = q.fSigs) then .inr () else .inl false) := by
 have hz : (p.fSigs.zip q.fSigs).length = p.fSigs.length := by simp [hlm]
 have hL := loop_all (L := inspeximusref10_Points_l1.l K p q) (fun (_ : Unit) (i : Nat) => (i : Int)) (p.fSigs.zip q.fSigs) (fun _ i x => some (bif decide (x.1 = x.2) then .inr () else .inl (.inl false))) (fun _ => some (.inr ())) () (by rw [hz]; exact hK)
  (fun k s => by
   show inspeximusref10_Points_l1.b K p q (inspeximusref10_Points_l1.l K p q k) _ = _
   unfold inspeximusref10_Points_l1.b
   rw [bif_false (dec_f (by rw [hz]; simp))])
  (fun k s i x hi hx => by
   obtain ⟨hx1, hx2⟩ := zip_get hx
   show inspeximusref10_Points_l1.b K p q (inspeximusref10_Points_l1.l K p q k) _ = _
   unfold inspeximusref10_Points_l1.b
   rw [bif_true (dec_t (by omega)), getI_lt hx1, getI_lt hx2]
   simp only [Option.bind_some]
   rw [wrap_succ (by omega)]
   have : (decide (x.1.fWit = x.2.fWit) && (decide (x.1.fTag = x.2.fTag) && true)) = decide (x.1 = x.2) := by
    rw [Bool.eq_iff_iff]
    obtain ⟨⟨a, b⟩, ⟨c, d⟩⟩ := x
    simp
   rw [this]
   cases decide (x.1 = x.2) <;> rfl)
 have hL : inspeximusref10_Points_l1.l K p q K 0 = _ := hL
 obtain ⟨r1, r2⟩ := run_find (good := fun (x : Sg × Sg) => decide (x.1 = x.2)) (v := fun _ => false) (l := p.fSigs.zip q.fSigs) (s := ()) (i := 0) (f := fun _ i x => some (bif decide (x.1 = x.2) then .inr () else .inl (.inl false))) (fun s i x _ => rfl)
 rw [zip_all_eq hlm] at r1 r2
 cases hg : decide (p.fSigs = q.fSigs) with
 | true => rw [hL, r1 hg]; rfl
 | false =>
  obtain ⟨j, _, _, hj⟩ := r2 hg
  rw [hL, hj]; rfl
theorem q10_points {K : Nat} {p q : T_api_Point} (hK : p.fSigs.length < K) (hl : p.fSigs.length < 1000000000000) : inspeximusref10_Points.f K p q = some (decide (p = q)) := by
 unfold inspeximusref10_Points.f
 obtain ⟨p1, p2, p3⟩ := p
 obtain ⟨q1, q2, q3⟩ := q
 simp only at hK hl
 refine Eq.trans (jn_val (!(decide (p1 = q1) && (decide (p2 = q2) && decide ((p3.length : Int) = (q3.length : Int))))) (fun j => ?_)) ?_
 ·try dsimp only
  cases decide (p1 = q1) <;> cases decide (p2 = q2) <;> rfl
 ·try dsimp only
  simp only [T_api_Point.mk.injEq]
  by_cases h1 : p1 = q1
  ·by_cases h2 : p2 = q2
   ·by_cases h3 : p3.length = q3.length
    ·rw [dec_t h1, dec_t h2, dec_t (show (p3.length : Int) = (q3.length : Int) by omega)]
     simp only [Bool.and_self, Bool.not_true, cond_false]
     rw [bnd (q10_loop (p := ⟨p1, p2, p3⟩) (q := ⟨q1, q2, q3⟩) h3 hK hl)]
     simp only [h1, h2, true_and]
     cases decide (p3 = q3) <;> rfl
    ·rw [dec_f (show ¬ (p3.length : Int) = (q3.length : Int) by omega)]
     have : ¬ (p1 = q1 ∧ p2 = q2 ∧ p3 = q3) := fun e => h3 (by rw [e.2.2])
     rw [dec_f this]; simp
   ·rw [dec_f h2]
    simp [h2]
  ·rw [dec_f h1]
   simp [h1]
theorem q17_same_l {K : Nat} (hK : 1000000000000 ≤ K) {a b : Bun} (hlm : a.fItems.length = b.fItems.length) (ha : okBun a) : inspeximusref17_Same_l1.l K a b K 0 = some (bif decide (a.fItems = b.fItems) then .inr () else .inl false) := by
 have hll := ha.len
 have hz : (a.fItems.zip b.fItems).length = a.fItems.length := by simp [hlm]
 have hL := loop_all (L := inspeximusref17_Same_l1.l K a b) (fun (_ : Unit) (i : Nat) => (i : Int)) (a.fItems.zip b.fItems) (fun _ i x => some (bif decide (x.1 = x.2) then .inr () else .inl (.inl false))) (fun _ => some (.inr ())) () (k := K) (by rw [hz]; omega)
  (fun k s => by
   show inspeximusref17_Same_l1.b K a b (inspeximusref17_Same_l1.l K a b k) _ = _
   unfold inspeximusref17_Same_l1.b
   rw [bif_false (dec_f (by rw [hz]; simp))])
  (fun k s i x hi hx => by
   obtain ⟨hx1, hx2⟩ := zip_get hx
   have hok := ha.items _ (List.mem_of_getElem? hx1)
   have hpl := hok.p
   show inspeximusref17_Same_l1.b K a b (inspeximusref17_Same_l1.l K a b k) _ = _
   unfold inspeximusref17_Same_l1.b
   rw [bif_true (dec_t (by omega))]
   refine Eq.trans (jn_val (x.1, x.2) (fun j => by
    try dsimp only
    rw [bnd (getI_lt hx1), bnd (getI_lt hx2)])) ?_
   try dsimp only
   rw [wrap_succ (by omega)]
   refine Eq.trans (jn_val (!decide (x.1 = x.2)) (fun j => ?_)) ?_
   ·try dsimp only
    rw [rrec_same hK hok.d, q05_same (by omega) (by omega)]
    obtain ⟨⟨a1, a2, a3⟩, ⟨b1, b2, b3⟩⟩ := x
    simp only [Option.bind_some, T_api_Item.mk.injEq]
    by_cases h1 : a1 = b1
    ·by_cases h2 : a2 = b2
     ·simp [h1, h2]
     ·simp [h1, h2]
    ·simp [h1]
   ·try dsimp only
    cases decide (x.1 = x.2) <;> rfl)
 have hL : inspeximusref17_Same_l1.l K a b K 0 = _ := hL
 obtain ⟨r1, r2⟩ := run_find (good := fun (x : It × It) => decide (x.1 = x.2)) (v := fun _ => false) (l := a.fItems.zip b.fItems) (s := ()) (i := 0) (f := fun _ i x => some (bif decide (x.1 = x.2) then .inr () else .inl (.inl false))) (fun s i x _ => rfl)
 rw [zip_all_eq hlm] at r1 r2
 cases hg : decide (a.fItems = b.fItems) with
 | true => rw [hL, r1 hg]; rfl
 | false =>
  obtain ⟨j, _, _, hj⟩ := r2 hg
  rw [hL, hj]; rfl
theorem q17_same {K : Nat} (hK : 1000000000000 ≤ K) {a b : Bun} (ha : okBun a) : inspeximusref17_Same.f K a b = some (decide (a = b)) := by
 unfold inspeximusref17_Same.f
 have hs := ha.sigs
 refine Eq.trans (jn_val (!(decide (a.fWhole = b.fWhole) && (decide (a.fPoint = b.fPoint) && decide ((a.fItems.length : Int) = (b.fItems.length : Int))))) (fun j => ?_)) ?_
 ·try dsimp only
  rw [q10_points (K := K) (by omega) (by omega)]
  simp only [Option.bind_some]
  cases a.fWhole <;> cases b.fWhole <;> cases decide (a.fPoint = b.fPoint) <;> rfl
 ·try dsimp only
  have key : (a = b) ↔ (a.fWhole = b.fWhole ∧ a.fPoint = b.fPoint ∧ a.fItems = b.fItems) := by
   constructor
   ·rintro rfl; exact ⟨rfl, rfl, rfl⟩
   ·obtain ⟨a1, a2, a3⟩ := a
    obtain ⟨b1, b2, b3⟩ := b
    rintro ⟨h1, h2, h3⟩
    simp only at h1 h2 h3
    rw [h1, h2, h3]
  by_cases h1 : a.fWhole = b.fWhole
  ·by_cases h2 : a.fPoint = b.fPoint
   ·by_cases h3 : a.fItems.length = b.fItems.length
    ·rw [dec_t h1, dec_t h2, dec_t (show (a.fItems.length : Int) = (b.fItems.length : Int) by omega)]
     simp only [Bool.and_self, Bool.not_true, cond_false]
     rw [bnd (q17_same_l hK h3 ha)]
     by_cases h4 : a.fItems = b.fItems
     ·rw [dec_t h4, dec_t (show a = b from key.2 ⟨h1, h2, h4⟩)]; rfl
     ·rw [dec_f h4, dec_f (show ¬ a = b from fun e => h4 (key.1 e).2.2)]; rfl
    ·rw [dec_f (show ¬ (a.fItems.length : Int) = (b.fItems.length : Int) by omega), dec_f (show ¬ a = b from fun e => h3 (by rw [(key.1 e).2.2]))]
     simp
   ·rw [dec_f h2, dec_f (show ¬ a = b from fun e => h2 (key.1 e).2.1)]
    simp
  ·rw [dec_f h1, dec_f (show ¬ a = b from fun e => h1 (key.1 e).1)]
   simp
/-! ### when it is right -/
theorem itemsE_map (g : Nat → It) : ∀ (m i : Nat), itemsE g i m = (List.range' i m).map g
 | 0, _ => rfl
 | m + 1, i => by rw [itemsE, itemsE_map g m (i + 1), List.range'_succ]; rfl
theorem itemsOk_sorted {g : Nat → It} (hg : ∀ j, (g j).fAt = (j : Int)) {size : Int} : ∀ (pl : List Nat) (last : Int) (k : Nat), (∀ i ∈ pl, last < (i : Int) ∧ (i : Int) < size ∧ rightS (g i).fRec = true ∧ (g i).fPath.length ≤ 20) → pl.Pairwise (· < ·) → itemsOk false size last k (pl.map g) = true
 | [], _, _, _, _ => rfl
 | i :: pl, last, k, h, hp => by
  have h0 := h i (List.mem_cons_self ..)
  obtain ⟨p1, p2⟩ := List.pairwise_cons.1 hp
  rw [List.map_cons]
  unfold itemsOk itemOk
  rw [h0.2.2.1, hg i, inn_iff.2 (show last + 1 ≤ (i : Int) ∧ (i : Int) ≤ size - 1 by omega), dec_t (show (((g i).fPath.length : Nat) : Int) ≤ 20 by have := h0.2.2.2; omega)]
  rw [itemsOk_sorted hg pl i (k + 1) (fun j hj => ⟨by have := p1 j hj; omega, (h j (List.mem_cons_of_mem _ hj)).2⟩) p2]
  rfl
theorem gE_ok {l : List Rc} {p : T_api_Point} (h : okE l p) (hg : gd l p = true) {mask : Int} {whole : Bool} {i : Nat} (hi : (i : Int) < p.fSize) :
  rightS (gE l mask whole (hashE l p) i).fRec = true ∧ okD (gE l mask whole (hashE l p) i).fRec ∧ (gE l mask whole (hashE l p) i).fPath.length ≤ 20 ∧ (whole = true → (gE l mask whole (hashE l p) i).fPath = []) := by
 obtain ⟨hr, n, hn, hn2⟩ := gd_iff hg
 have hl := h.len
 have hh := (hashE_eq h hg hn).2
 obtain ⟨x, hx⟩ := getI_ex (l := l) (i := i) (by omega)
 rw [getI_nat] at hx
 have hm := List.mem_of_getElem? hx
 have hq := maskE_right (h.d x hm) (h.small x hm) (List.all_eq_true.1 hr x hm) i mask
 have hp := (pathE_eq (l := hashE l p) (i := i) (by omega) (by omega)).2
 have e : (gE l mask whole (hashE l p) i).fRec = maskE x i mask := by
  show maskE (l[i]?.getD zRc) i mask = _
  rw [hx]; rfl
 rw [e]
 refine ⟨hq.1, hq.2, ?_, fun hw => by rw [hw]; rfl⟩
 show (bif whole then [] else pathE (hashE l p) i : List H32).length ≤ 20
 cases whole with
 | true => simp
 | false => exact hp
theorem rightB_some {l : List Rc} {p : T_api_Point} (h : okE l p) (hg : gd l p = true) {mask : Int} {pl : List Nat} (hlt : ∀ i ∈ pl, (i : Int) < p.fSize) (hp : pl.Pairwise (· < ·)) (hlen : (pl.length : Int) ≤ p.fSize) : rightB (bunE l p mask false pl) = pointOk p := by
 unfold rightB
 have e1 : (bunE l p mask false pl).fItems.length = pl.length := List.length_map ..
 have e2 : itemsOk false p.fSize (-1) 0 (bunE l p mask false pl).fItems = true :=
  itemsOk_sorted (fun _ => rfl) pl (-1) 0 (fun i hi => ⟨by omega, hlt i hi, (gE_ok h hg (hlt i hi)).1, (gE_ok h hg (hlt i hi)).2.2.1⟩) hp
 show (pointOk p && (decide (((bunE l p mask false pl).fItems.length : Int) ≤ p.fSize) && (true && itemsOk false p.fSize (-1) 0 (bunE l p mask false pl).fItems))) = pointOk p
 rw [e2, e1, dec_t hlen]
 simp
theorem rightB_whole {l : List Rc} {p : T_api_Point} (h : okE l p) (hg : gd l p = true) {mask : Int} {n : Nat} (hn : p.fSize = (n : Int)) : rightB (bunE l p mask true (List.range' 0 n)) = pointOk p := by
 unfold rightB
 have e1 : (bunE l p mask true (List.range' 0 n)).fItems.length = n := by
  show ((List.range' 0 n).map _).length = n
  rw [List.length_map, List.length_range']
 have e2 : itemsOk true p.fSize (-1) 0 (bunE l p mask true (List.range' 0 n)).fItems = true := by
  have := itemsE_ok (g := gE l mask true (hashE l p)) (whole := true) (size := p.fSize) (fun _ => rfl) n 0 (by omega) (fun j _ hj => by
   have := gE_ok h hg (mask := mask) (whole := true) (i := j) (by omega)
   exact ⟨this.1, this.2.2.1, this.2.2.2⟩)
  rw [itemsE_map] at this
  exact this
 show (pointOk p && (decide (((bunE l p mask true (List.range' 0 n)).fItems.length : Int) ≤ p.fSize) && ((!true || decide (((bunE l p mask true (List.range' 0 n)).fItems.length : Int) = p.fSize)) && itemsOk true p.fSize (-1) 0 (bunE l p mask true (List.range' 0 n)).fItems))) = pointOk p
 rw [e2, e1, dec_t (show (n : Int) ≤ p.fSize by omega), dec_t (show (n : Int) = p.fSize by omega)]
 simp
theorem places_sorted {l : List Rc} {p : T_api_Point} {sel : Nat → Bool} : (placesE l p sel).Pairwise (· < ·) := (List.pairwise_lt_range' ..).filter _
theorem places_len {l : List Rc} {p : T_api_Point} {sel : Nat → Bool} (hg : gd l p = true) : ((placesE l p sel).length : Int) ≤ p.fSize := by
 obtain ⟨_, n, hn, _⟩ := gd_iff hg
 have h1 : (placesE l p sel).length ≤ _ := List.length_filter_le sel _
 rw [List.length_range'] at h1
 omega
theorem places_all {l : List Rc} {p : T_api_Point} {sel : Nat → Bool} {n : Nat} (hn : p.fSize = (n : Int)) (h : ∀ i, i < n → sel i = true) : placesE l p sel = List.range' 0 n := by
 unfold placesE
 rw [hn, Int.toNat_natCast]
 exact List.filter_eq_self.2 fun i hi => h i (by have := (List.mem_range'_1.1 hi).2; omega)
/-- a bundle of some places, sorted -/
theorem made_some {l : List Rc} {p : T_api_Point} (h : okE l p) {mask : Int} {pl : List Nat} (hlt : gd l p = true → ∀ i ∈ pl, (i : Int) < p.fSize) (hp : pl.Pairwise (· < ·)) (hlen : gd l p = true → (pl.length : Int) ≤ p.fSize) : madeE l p mask false pl = bif gd l p && pointOk p then (bunE l p mask false pl, true) else (zBun, false) := by
 unfold madeE
 cases hg : gd l p with
 | false => rfl
 | true => rw [rightB_some h hg (hlt hg) hp (hlen hg)]
theorem made_whole {l : List Rc} {p : T_api_Point} (h : okE l p) {mask : Int} : madeE l p mask true (placesE l p (fun _ => true)) = bif gd l p && pointOk p then (bunE l p mask true (placesE l p (fun _ => true)), true) else (zBun, false) := by
 unfold madeE
 cases hg : gd l p with
 | false => rfl
 | true =>
  obtain ⟨_, n, hn, _⟩ := gd_iff hg
  rw [places_all hn (fun _ _ => rfl), rightB_whole h hg hn]
/-- a loop that goes on to its end -/
theorem loop_thru {β : Type} {L : Nat → Int → Option β} {n : Nat} {r : β} (hend : ∀ k, L (k + 1) (n : Int) = some r) (hstep : ∀ k (i : Nat), i < n → L (k + 1) (i : Int) = L k ((i + 1 : Nat) : Int)) : ∀ m i k, i + m = n → m < k → L k (i : Int) = some r := by
 intro m
 induction m with
 | zero =>
  intro i k hi hk
  obtain ⟨k, rfl⟩ : ∃ j, k = j + 1 := ⟨k - 1, by omega⟩
  rw [show i = n by omega]; exact hend k
 | succ m ih =>
  intro i k hi hk
  obtain ⟨k, rfl⟩ : ∃ j, k = j + 1 := ⟨k - 1, by omega⟩
  rw [hstep k i (by omega)]
  exact ih (i + 1) k (by omega) (by omega)
end Go.Proofs.YtjgaokcplofimaaDoor
