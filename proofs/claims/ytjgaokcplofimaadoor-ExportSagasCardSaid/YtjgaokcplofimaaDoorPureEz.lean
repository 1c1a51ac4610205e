/-
 Plain: the document's comparisons of records and bundles, and when an exported bundle is right.
-/
import Derived.Test.YtjgaokcplofimaaDoorPureRs
namespace Go.Proofs.YtjgaokcplofimaaDoor
open Go Go.Sep
/-! ### the same -/
/-! ### when it is right -/
theorem itemsE_map (g : Nat → It) : ∀ (m i : Nat), itemsE g i m = (List.range' i m).map g
 | 0, _ => rfl
 | m + 1, i => by rw [itemsE, itemsE_map g m (i + 1), List.range'_succ]; rfl
theorem itemsOk_sorted {g : Nat → It} (hg : ∀ j, (g j).fAt = (j : Int)) {size : Int} : ∀ (pl : List Nat) (last : Int) (k : Nat), (∀ i ∈ pl, last < (i : Int) ∧ (i : Int) < size ∧ rightS (g i).fRec = true ∧ (g i).fPath.length ≤ 20) → pl.Pairwise (· < ·) → itemsOk false size last k (pl.map g) = true
 | [], _, _, _, _ => rfl
 | i :: pl, last, k, h, hp => by
  have h0 := h i (List.mem_cons_self ..)
  obtain ⟨p1, p2⟩ := List.pairwise_cons.1 hp
  rw [List.map_cons]
  unfold itemsOk itemOk
  rw [h0.2.2.1, hg i, inn_iff.2 (show last + 1 ≤ (i : Int) ∧ (i : Int) ≤ size - 1 by omega), dec_t (show (((g i).fPath.length : Nat) : Int) ≤ 20 by have := h0.2.2.2; omega)]
  rw [itemsOk_sorted hg pl i (k + 1) (fun j hj => ⟨by have := p1 j hj; omega, (h j (List.mem_cons_of_mem _ hj)).2⟩) p2]
  rfl
theorem gE_ok {l : List Rc} {p : T_api_Point} (h : okE l p) (hg : gd l p = true) {mask : Int} {whole : Bool} {i : Nat} (hi : (i : Int) < p.fSize) :
  rightS (gE l mask whole (hashE l p) i).fRec = true ∧ okD (gE l mask whole (hashE l p) i).fRec ∧ (gE l mask whole (hashE l p) i).fPath.length ≤ 20 ∧ (whole = true → (gE l mask whole (hashE l p) i).fPath = []) := by
 obtain ⟨hr, n, hn, hn2⟩ := gd_iff hg
 have hl := h.len
 have hh := (hashE_eq h hg hn).2
 obtain ⟨x, hx⟩ := getI_ex (l := l) (i := i) (by omega)
 rw [getI_nat] at hx
 have hm := List.mem_of_getElem? hx
 have hq := maskE_right (h.d x hm) (h.small x hm) (List.all_eq_true.1 hr x hm) i mask
 have hp := (pathE_eq (l := hashE l p) (i := i) (by omega) (by omega)).2
 have e : (gE l mask whole (hashE l p) i).fRec = maskE x i mask := by
  show maskE (l[i]?.getD zRc) i mask = _
  rw [hx]; rfl
 rw [e]
 refine ⟨hq.1, hq.2, ?_, fun hw => by rw [hw]; rfl⟩
 show (bif whole then [] else pathE (hashE l p) i : List H32).length ≤ 20
 cases whole with
 | true => simp
 | false => exact hp
theorem rightB_some {l : List Rc} {p : T_api_Point} (h : okE l p) (hg : gd l p = true) {mask : Int} {pl : List Nat} (hlt : ∀ i ∈ pl, (i : Int) < p.fSize) (hp : pl.Pairwise (· < ·)) (hlen : (pl.length : Int) ≤ p.fSize) : rightB (xbunE l p mask false pl) = pointOk p := by
 unfold rightB
 have e1 : (xbunE l p mask false pl).fItems.length = pl.length := List.length_map ..
 have e2 : itemsOk false p.fSize (-1) 0 (xbunE l p mask false pl).fItems = true :=
  itemsOk_sorted (fun _ => rfl) pl (-1) 0 (fun i hi => ⟨by omega, hlt i hi, (gE_ok h hg (hlt i hi)).1, (gE_ok h hg (hlt i hi)).2.2.1⟩) hp
 show (pointOk p && (decide (((xbunE l p mask false pl).fItems.length : Int) ≤ p.fSize) && (true && itemsOk false p.fSize (-1) 0 (xbunE l p mask false pl).fItems))) = pointOk p
 rw [e2, e1, dec_t hlen]
 simp
theorem rightB_whole {l : List Rc} {p : T_api_Point} (h : okE l p) (hg : gd l p = true) {mask : Int} {n : Nat} (hn : p.fSize = (n : Int)) : rightB (xbunE l p mask true (List.range' 0 n)) = pointOk p := by
 unfold rightB
 have e1 : (xbunE l p mask true (List.range' 0 n)).fItems.length = n := by
  show ((List.range' 0 n).map _).length = n
  rw [List.length_map, List.length_range']
 have e2 : itemsOk true p.fSize (-1) 0 (xbunE l p mask true (List.range' 0 n)).fItems = true := by
  have := itemsE_ok (g := gE l mask true (hashE l p)) (whole := true) (size := p.fSize) (fun _ => rfl) n 0 (by omega) (fun j _ hj => by
   have := gE_ok h hg (mask := mask) (whole := true) (i := j) (by omega)
   exact ⟨this.1, this.2.2.1, this.2.2.2⟩)
  rw [itemsE_map] at this
  exact this
 show (pointOk p && (decide (((xbunE l p mask true (List.range' 0 n)).fItems.length : Int) ≤ p.fSize) && ((!true || decide (((xbunE l p mask true (List.range' 0 n)).fItems.length : Int) = p.fSize)) && itemsOk true p.fSize (-1) 0 (xbunE l p mask true (List.range' 0 n)).fItems))) = pointOk p
 rw [e2, e1, dec_t (show (n : Int) ≤ p.fSize by omega), dec_t (show (n : Int) = p.fSize by omega)]
 simp
theorem places_sorted {l : List Rc} {p : T_api_Point} {sel : Nat → Bool} : (placesE l p sel).Pairwise (· < ·) := (List.pairwise_lt_range' ..).filter _
theorem places_len {l : List Rc} {p : T_api_Point} {sel : Nat → Bool} (hg : gd l p = true) : ((placesE l p sel).length : Int) ≤ p.fSize := by
 obtain ⟨_, n, hn, _⟩ := gd_iff hg
 have h1 : (placesE l p sel).length ≤ _ := List.length_filter_le sel _
 rw [List.length_range'] at h1
 omega
theorem places_all {l : List Rc} {p : T_api_Point} {sel : Nat → Bool} {n : Nat} (hn : p.fSize = (n : Int)) (h : ∀ i, i < n → sel i = true) : placesE l p sel = List.range' 0 n := by
 unfold placesE
 rw [hn, Int.toNat_natCast]
 exact List.filter_eq_self.2 fun i hi => h i (by have := (List.mem_range'_1.1 hi).2; omega)
/-- a bundle of some places, sorted -/
theorem made_some {l : List Rc} {p : T_api_Point} (h : okE l p) {mask : Int} {pl : List Nat} (hlt : gd l p = true → ∀ i ∈ pl, (i : Int) < p.fSize) (hp : pl.Pairwise (· < ·)) (hlen : gd l p = true → (pl.length : Int) ≤ p.fSize) : madeE l p mask false pl = bif gd l p && pointOk p then (xbunE l p mask false pl, true) else (zBun, false) := by
 unfold madeE
 cases hg : gd l p with
 | false => rfl
 | true => rw [rightB_some h hg (hlt hg) hp (hlen hg)]
theorem made_whole {l : List Rc} {p : T_api_Point} (h : okE l p) {mask : Int} : madeE l p mask true (placesE l p (fun _ => true)) = bif gd l p && pointOk p then (xbunE l p mask true (placesE l p (fun _ => true)), true) else (zBun, false) := by
 unfold madeE
 cases hg : gd l p with
 | false => rfl
 | true =>
  obtain ⟨_, n, hn, _⟩ := gd_iff hg
  rw [places_all hn (fun _ _ => rfl), rightB_whole h hg hn]
/-- a loop that goes on to its end -/
theorem loop_thru {β : Type} {L : Nat → Int → Option β} {n : Nat} {r : β} (hend : ∀ k, L (k + 1) (n : Int) = some r) (hstep : ∀ k (i : Nat), i < n → L (k + 1) (i : Int) = L k ((i + 1 : Nat) : Int)) : ∀ m i k, i + m = n → m < k → L k (i : Int) = some r := by
 intro m
 induction m with
 | zero =>
  intro i k hi hk
  obtain ⟨k, rfl⟩ : ∃ j, k = j + 1 := ⟨k - 1, by omega⟩
  rw [show i = n by omega]; exact hend k
 | succ m ih =>
  intro i k hi hk
  obtain ⟨k, rfl⟩ : ∃ j, k = j + 1 := ⟨k - 1, by omega⟩
  rw [hstep k i (by omega)]
  exact ih (i + 1) k (by omega) (by omega)
end Go.Proofs.YtjgaokcplofimaaDoor
