/-
  Plain: bundles' bytes, and how they are read.
-/
import Derived.Test.YtnnhkfmknlfpbaaPureU
namespace Go.Proofs.Ytnnhkfmknlfpbaa
open Go Go.Sep

/-! ### bytes -/
def sigW (s : Sg) : List Int := numW s.fWit ++ vlist s.fTag
def sigsW (l : List Sg) : List Int := numS l.length ++ (l.map sigW).flatten
def hashW (h : H32) : List Int := vlist h
def pathW (l : List H32) : List Int := numS l.length ++ (l.map hashW).flatten
def itemW (x : It) : List Int := numW x.fAt ++ (openW x.fRec ++ pathW x.fPath)
def wholeW (x : It) : List Int := openW x.fRec
def itemsW (whole : Bool) (l : List It) : List Int := bif whole then (l.map wholeW).flatten else numS l.length ++ (l.map itemW).flatten
def bunW (x : Bun) : List Int := [flagI x.fWhole] ++ (numW x.fPoint.fSize ++ (vlist x.fPoint.fRoot ++ (sigsW x.fPoint.fSigs ++ itemsW x.fWhole x.fItems)))
def mark : List Int := [105, 110, 115, 112]

/-! ### what a right bundle has -/
theorem itemsOk_mem {whole : Bool} {size : Int} (hs : 0 ≤ size ∧ size ≤ 400) : ∀ {l : List It} {last : Int} {i : Nat}, -1 ≤ last → itemsOk whole size last i l = true →
    ∀ x ∈ l, rightS x.fRec = true ∧ inN x.fAt ∧ x.fPath.length ≤ 20 := by
  intro l
  induction l with
  | nil => intro last i _ _ x hx; cases hx
  | cons y l ih =>
    intro last i hl h x hx
    unfold itemsOk itemOk at h
    simp only [Bool.and_eq_true] at h
    obtain ⟨⟨h1, h2, h3, _⟩, h4⟩ := h
    have h2 := inn_iff.1 h2
    have h3 := of_decide_eq_true h3
    rcases List.mem_cons.1 hx with rfl | hx
    · exact ⟨h1, by omega, by omega⟩
    · exact ih (by omega) h4 x hx
structure RightP (x : Bun) : Prop where
  size : 0 ≤ x.fPoint.fSize ∧ x.fPoint.fSize ≤ 400
  sigs : x.fPoint.fSigs.length ≤ 4
  wits : ∀ s ∈ x.fPoint.fSigs, inN s.fWit
  len : x.fItems.length ≤ 400
  lens : (x.fItems.length : Int) ≤ x.fPoint.fSize
  whole : x.fWhole = true → (x.fItems.length : Int) = x.fPoint.fSize
  ok : itemsOk x.fWhole x.fPoint.fSize (-1) 0 x.fItems = true
  items : ∀ y ∈ x.fItems, rightS y.fRec = true ∧ inN y.fAt ∧ y.fPath.length ≤ 20
theorem rightP {x : Bun} (h : rightB x = true) : RightP x := by
  unfold rightB pointOk at h
  simp only [Bool.and_eq_true] at h
  obtain ⟨⟨h1, h2, h3⟩, h4, h5, h6⟩ := h
  have h1 := inn_iff.1 h1
  have h2 := of_decide_eq_true h2
  have h4 := of_decide_eq_true h4
  refine ⟨h1, by omega, fun s hs => ?_, by omega, h4, fun hw => ?_, h6, itemsOk_mem h1 (by omega) h6⟩
  · have := List.all_eq_true.1 h3 s hs
    exact inn_N this (by omega) (by omega)
  · rw [hw] at h5
    simpa using h5
theorem sigW_len {s : Sg} (h : inN s.fWit) : (sigW s).length ≤ 37 := by
  have := numW_len h
  simp [sigW, vlist_length]; omega
theorem sigsW_len {x : Bun} (h : RightP x) : (sigsW x.fPoint.fSigs).length ≤ 200 := by
  have h1 : (x.fPoint.fSigs.map sigW).flatten.length ≤ 37 * x.fPoint.fSigs.length := flat_len (fun s hs => sigW_len (h.wits s hs))
  have h2 := numS_len (n := x.fPoint.fSigs.length) (by have := h.sigs; omega)
  have := h.sigs
  simp only [sigsW, List.length_append]; omega
theorem pathW_len {l : List H32} (h : l.length ≤ 20) : (pathW l).length ≤ 645 := by
  have h1 : (l.map hashW).flatten.length ≤ 32 * l.length := flat_len (fun s _ => by unfold hashW; rw [vlist_length]; omega)
  have h2 := numS_len (n := l.length) (by omega)
  simp only [pathW, List.length_append]; omega
theorem itemW_len {y : It} (h : rightS y.fRec = true ∧ inN y.fAt ∧ y.fPath.length ≤ 20) : (itemW y).length ≤ 1000 ∧ 0 < (itemW y).length := by
  have h1 := openW_len h.1
  have h2 := numW_len h.2.1
  have h3 := pathW_len h.2.2
  simp only [itemW, List.length_append]; omega
theorem itemsW_len {x : Bun} (h : RightP x) (w : Bool) : (itemsW w x.fItems).length ≤ 500000 := by
  have hl := h.len
  cases w
  · have h1 : (x.fItems.map itemW).flatten.length ≤ 1000 * x.fItems.length := flat_len (fun y hy => (itemW_len (h.items y hy)).1)
    have h2 := numS_len (n := x.fItems.length) (by omega)
    simp only [itemsW, cond_false, List.length_append]; omega
  · have h1 : (x.fItems.map wholeW).flatten.length ≤ 305 * x.fItems.length := flat_len (fun y hy => (openW_len (h.items y hy).1).1)
    simp only [itemsW, cond_true]; omega
theorem bunW_len {x : Bun} (h : RightP x) : (bunW x).length ≤ 600000 := by
  have h1 := itemsW_len h x.fWhole
  have h2 := sigsW_len h
  have h3 := numW_len (n := x.fPoint.fSize) (by have := h.size; omega)
  simp only [bunW, List.length_append, vlist_length, List.length_singleton]; omega

/-! ### the program puts -/
theorem sigs_put {K : Nat} (hK : 1000000000000 ≤ K) {l : List Sg} (hl : l.length ≤ 4) (h : ∀ s ∈ l, inN s.fWit) : bundle_list_api_Sig.f K l = some (sigsW l) := by
  unfold bundle_list_api_Sig.f
  have hn := num_eq (K := K) (n := l.length) hK (by omega)
  rw [hn]
  simp only [Option.bind_some]
  have h1 : (l.map sigW).flatten.length ≤ 37 * l.length := flat_len (fun s hs => sigW_len (h s hs))
  have h2 := numS_len (n := l.length) (by omega)
  have := cat_loop (L := bundle_list_api_Sig_l1.l K l) l sigW (numS l.length) (k := K) (by omega)
    (fun k s => by
      show bundle_list_api_Sig_l1.b K l (bundle_list_api_Sig_l1.l K l k) _ = _
      unfold bundle_list_api_Sig_l1.b
      rw [bif_false (dec_f (by simp))])
    (fun k s i y hi hx hm hs => by
      show bundle_list_api_Sig_l1.b K l (bundle_list_api_Sig_l1.l K l k) _ = _
      unfold bundle_list_api_Sig_l1.b
      rw [bif_true (dec_t (by simp; omega))]
      simp only
      rw [hx]
      simp only [Option.bind_some]
      have hy := h y hm
      have hw := numW_len hy
      have e : bundle_Put_1.f K y = some (sigW y) := by
        unfold bundle_Put_1.f
        rw [num_w hK hy]
        simp only [Option.bind_some]
        rw [hash_eq]
        simp only [Option.bind_some]
        rw [all_eq hK (by simp [vlist_length]; omega) (by simp)]
        simp [sigW]
      rw [e]
      simp only [Option.bind_some]
      rw [catI_ok (by omega)]
      simp only [Option.bind_some]
      rw [wrap_succ (by omega)])
    (by omega)
  rw [this]
  rfl
theorem path_put {K : Nat} (hK : 1000000000000 ≤ K) {l : List H32} (hl : l.length ≤ 20) : bundle_list_api_Hash.f K l = some (pathW l) := by
  unfold bundle_list_api_Hash.f
  have hn := num_eq (K := K) (n := l.length) hK (by omega)
  rw [hn]
  simp only [Option.bind_some]
  have h1 : (l.map hashW).flatten.length ≤ 32 * l.length := flat_len (fun s _ => by unfold hashW; rw [vlist_length]; omega)
  have h2 := numS_len (n := l.length) (by omega)
  have := cat_loop (L := bundle_list_api_Hash_l1.l K l) l hashW (numS l.length) (k := K) (by omega)
    (fun k s => by
      show bundle_list_api_Hash_l1.b K l (bundle_list_api_Hash_l1.l K l k) _ = _
      unfold bundle_list_api_Hash_l1.b
      rw [bif_false (dec_f (by simp))])
    (fun k s i y hi hx hm hs => by
      show bundle_list_api_Hash_l1.b K l (bundle_list_api_Hash_l1.l K l k) _ = _
      unfold bundle_list_api_Hash_l1.b
      rw [bif_true (dec_t (by simp; omega))]
      simp only
      rw [hx]
      simp only [Option.bind_some]
      rw [hash_eq]
      simp only [Option.bind_some]
      unfold hashW at hs ⊢
      rw [catI_ok (by omega)]
      simp only [Option.bind_some]
      rw [wrap_succ (by omega)])
    (by omega)
  rw [this]
  rfl
theorem item_put {K : Nat} (hK : 1000000000000 ≤ K) {y : It} (ho : okItem y) (h : rightS y.fRec = true ∧ inN y.fAt ∧ y.fPath.length ≤ 20) : bundle_item.f K y = some (itemW y) := by
  unfold bundle_item.f
  rw [num_w hK h.2.1]
  simp only [Option.bind_some]
  rw [open_eq hK ho.d, h.1]
  simp only [Option.bind_some, cond_true]
  rw [path_put hK h.2.2]
  simp only [Option.bind_some]
  have h4 := itemW_len h
  simp only [itemW, List.length_append] at h4
  rw [all_eq hK (by simp; omega) (by simp)]
  simp [itemW]
theorem put_eq {K : Nat} (hK : 1000000000000 ≤ K) {x : Bun} (ho : okBun x) : bundle_Put.f K x = some (bif rightB x then mark ++ bunW x else []) := by
  unfold bundle_Put.f
  rw [rightB_eq hK ho]
  simp only [Option.bind_some]
  cases hr : rightB x with
  | false => rfl
  | true =>
  have hp := rightP hr
  rw [bif_false (by rfl)]
  simp only [jn]
  have hsz := hp.size
  have w1 := numW_len (n := x.fPoint.fSize) (by omega)
  have w2 := sigsW_len hp
  have w3 := itemsW_len hp
  have hl := hp.len
  refine bind_of flag_eq ?_
  refine bind_of (num_w hK (by omega)) ?_
  refine bind_of hash_eq ?_
  refine bind_of (sigs_put hK hp.sigs hp.wits) ?_
  refine bind_of (all_eq hK (by simp [vlist_length]; omega) (by simp)) ?_
  have hhl : (([[(105 : Int), 110, 115, 112], [flagI x.fWhole], numW x.fPoint.fSize, vlist x.fPoint.fRoot, sigsW x.fPoint.fSigs] : List (List Int)).flatten).length ≤ 300 := by simp [vlist_length]; omega
  generalize hh : ([[(105 : Int), 110, 115, 112], [flagI x.fWhole], numW x.fPoint.fSize, vlist x.fPoint.fRoot, sigsW x.fPoint.fSigs] : List (List Int)).flatten = hd at hhl
  have he : mark ++ bunW x = hd ++ itemsW x.fWhole x.fItems := by rw [← hh]; simp [mark, bunW]
  rw [he]
  cases hw : x.fWhole with
  | false =>
    rw [bif_true (by rfl)]
    have e : bundle_list_api_Item.f K x.fItems = some (itemsW false x.fItems) := by
      unfold bundle_list_api_Item.f
      have hn := num_eq (K := K) (n := x.fItems.length) hK (by omega)
      rw [hn]
      simp only [Option.bind_some]
      have w4 := w3 false
      simp only [itemsW, cond_false, List.length_append] at w4
      have := cat_loop (L := bundle_list_api_Item_l1.l K x.fItems) x.fItems itemW (numS x.fItems.length) (k := K) (by omega)
        (fun k s => by
          show bundle_list_api_Item_l1.b K x.fItems (bundle_list_api_Item_l1.l K x.fItems k) _ = _
          unfold bundle_list_api_Item_l1.b
          rw [bif_false (dec_f (by simp))])
        (fun k s i y hi hx hm hs => by
          show bundle_list_api_Item_l1.b K x.fItems (bundle_list_api_Item_l1.l K x.fItems k) _ = _
          unfold bundle_list_api_Item_l1.b
          rw [bif_true (dec_t (by simp; omega))]
          simp only
          rw [hx]
          simp only [Option.bind_some]
          rw [item_put hK (ho.items y hm) (hp.items y hm)]
          simp only [Option.bind_some]
          rw [catI_ok (by omega)]
          simp only [Option.bind_some]
          rw [wrap_succ (by omega)])
        (by omega)
      rw [this]
      rfl
    have w4 := w3 false
    rw [e]
    simp only [Option.bind_some, cond_true]
    rw [catI_ok (by omega)]
    rfl
  | true =>
    rw [bif_false (by rfl)]
    have w4 := w3 true
    simp only [itemsW, cond_true] at w4
    have := cat_loop (L := bundle_Put_l1.l K x) x.fItems wholeW hd (k := K) (by omega)
      (fun k s => by
        show bundle_Put_l1.b K x (bundle_Put_l1.l K x k) _ = _
        unfold bundle_Put_l1.b
        rw [bif_false (dec_f (by simp))])
      (fun k s i y hi hx hm hs => by
        show bundle_Put_l1.b K x (bundle_Put_l1.l K x k) _ = _
        unfold bundle_Put_l1.b
        rw [bif_true (dec_t (by simp; omega))]
        simp only
        rw [hx]
        simp only [Option.bind_some]
        rw [open_eq hK (ho.items y hm).d, (hp.items y hm).1]
        simp only [Option.bind_some, cond_true]
        unfold wholeW at hs ⊢
        rw [catI_ok (by omega)]
        simp only [Option.bind_some]
        rw [wrap_succ (by omega)])
      (by omega)
    rw [this]
    rfl

/-! ### readers -/
def sigR : Rd → Sg × Rd := mapR (fun (t : Int × H32) => (⟨t.1, t.2⟩ : Sg)) (seqR numR (fun _ => hashR))
theorem sigR_spec : RdSpec sigR sigW (fun s => inN s.fWit ∧ isB (vlist s.fTag)) :=
  ((numR_spec.seq (fun _ => hashR_spec)).map (e := fun (t : Int × H32) => (⟨t.1, t.2⟩ : Sg)) (fun s => (s.fWit, s.fTag)) (fun _ => rfl)).conv (fun _ _ => rfl) (fun s => ⟨fun h => ⟨h, rfl⟩, fun h => h.1⟩)
def cntR {α : Type} (most : Int) (one : Nat → Rd → α × Rd) : Rd → List α × Rd := mapR Prod.snd (seqR (capR most 4) (fun n => listR one n.toNat 0))
theorem mem_iff {α : Type} {P : α → Prop} {l : List α} : (∀ x ∈ l, P x) ↔ ∀ (j : Nat) x, l[j]? = some x → P x :=
  ⟨fun h j x hx => h x (List.mem_of_getElem? hx), fun h x hx => by obtain ⟨j, hj⟩ := List.getElem?_of_mem hx; exact h j x hj⟩
def sigsR : Rd → List Sg × Rd := cntR 4 (fun _ => sigR)
theorem sigsR_spec : RdSpec sigsR sigsW (fun l => (l.length : Int) ≤ 4 ∧ ∀ s ∈ l, inN s.fWit ∧ isB (vlist s.fTag)) :=
  (RdSpec.counted (most := 4) (code := 4) (by omega) (by omega) (fun _ => sigR_spec)).conv (fun _ _ => rfl) (fun l => by rw [mem_iff])
def pathR : Rd → List H32 × Rd := cntR 20 (fun _ => hashR)
theorem pathR_spec : RdSpec pathR pathW (fun l => (l.length : Int) ≤ 20 ∧ ∀ h ∈ l, isB (vlist h)) :=
  (RdSpec.counted (most := 20) (code := 4) (by omega) (by omega) (fun _ => hashR_spec)).conv (fun _ _ => rfl) (fun l => by rw [mem_iff])
def someR : Rd → It × Rd := mapR (fun (t : Int × Rc × List H32) => (⟨t.1, t.2.1, t.2.2⟩ : It)) (seqR numR (fun _ => seqR recR (fun _ => pathR)))
def someOk (y : It) : Prop := inN y.fAt ∧ (rightS y.fRec = true ∧ okB y.fRec) ∧ (y.fPath.length : Int) ≤ 20 ∧ ∀ h ∈ y.fPath, isB (vlist h)
theorem someR_spec : RdSpec someR itemW someOk :=
  ((numR_spec.seq (fun _ => recR_spec.seq (fun _ => pathR_spec))).map (e := fun (t : Int × Rc × List H32) => (⟨t.1, t.2.1, t.2.2⟩ : It)) (fun y => (y.fAt, y.fRec, y.fPath)) (fun _ => rfl)).conv (fun _ _ => rfl) (fun y => ⟨fun h => ⟨h, rfl⟩, fun h => h.1⟩)
def wholeR (i : Nat) : Rd → It × Rd := mapR (fun (c : Rc) => (⟨(i : Int), c, []⟩ : It)) recR
def wholeOk (i : Nat) (y : It) : Prop := (rightS y.fRec = true ∧ okB y.fRec) ∧ (⟨(i : Int), y.fRec, []⟩ : It) = y
theorem wholeR_spec (i : Nat) : RdSpec (wholeR i) wholeW (wholeOk i) :=
  (recR_spec.map (e := fun (c : Rc) => (⟨(i : Int), c, []⟩ : It)) (fun y => y.fRec) (fun _ => rfl)).conv (fun _ _ => rfl) (fun y => Iff.rfl)
def itemsR (w : Bool) (n : Int) : Rd → List It × Rd :=
  bif w then fun r => listR wholeR n.toNat 0 (if 400 < n then failR 4 r else r) else cntR n (fun _ => someR)
def itemsOkR (w : Bool) (n : Int) (l : List It) : Prop :=
  bif w then (n ≤ 400 ∧ l.length = n.toNat ∧ ∀ j x, l[j]? = some x → wholeOk j x) else ((l.length : Int) ≤ n ∧ ∀ y ∈ l, someOk y)
theorem itemsR_spec (w : Bool) (n : Int) (hn : n < 2147483648) : RdSpec (itemsR w n) (itemsW w) (itemsOkR w n) := by
  cases w with
  | false =>
    exact (RdSpec.counted (most := n) (code := 4) hn (by omega) (fun _ => someR_spec)).conv (fun _ _ => rfl) (fun l => by simp only [itemsOkR, cond_false]; rw [mem_iff])
  | true =>
    have hs := RdSpec.list wholeR_spec n.toNat 0
    simp only [Nat.zero_add] at hs
    by_cases h4 : 400 < n
    · refine ⟨fun r hr => ?_, fun a rest ha _ => ?_, fun r hr hb => ?_⟩
      · simp only [itemsR, cond_true, h4, if_true]
        exact hs.good _ (failR_good hr)
      · simp only [itemsOkR, cond_true] at ha; omega
      · simp only [itemsR, cond_true, h4, if_true] at hb
        exact absurd (hs.back _ (failR_good hr) hb).1 (failR_bad (by omega) _)
    · have e : itemsR true n = listR wholeR n.toNat 0 := by
        funext r
        simp only [itemsR, cond_true, h4, if_false]
      rw [e]
      exact hs.conv (fun _ _ => rfl) (fun l => by simp only [itemsOkR, cond_true]; exact ⟨fun h => h.2, fun h => ⟨by omega, h⟩⟩)
abbrev BunT := Bool × Int × H32 × List Sg × List It
def bunE (t : BunT) : Bun := ⟨t.1, ⟨t.2.1, t.2.2.1, t.2.2.2.1⟩, t.2.2.2.2⟩
def capN (n : Int) : Int := if n < 2147483648 then n else 0
def bunR : Rd → Bun × Rd := mapR bunE (seqR flagR (fun w => seqR (capR 400 4) (fun n => seqR hashR (fun _ => seqR sigsR (fun _ => itemsR w (capN n))))))
structure bunOk (x : Bun) : Prop where
  size : 0 ≤ x.fPoint.fSize ∧ x.fPoint.fSize ≤ 400
  root : isB (vlist x.fPoint.fRoot)
  sigs : (x.fPoint.fSigs.length : Int) ≤ 4 ∧ ∀ s ∈ x.fPoint.fSigs, inN s.fWit ∧ isB (vlist s.fTag)
  items : itemsOkR x.fWhole x.fPoint.fSize x.fItems
theorem bunR_spec : RdSpec bunR bunW bunOk := by
  have h := (flagR_spec.seq (fun w => (capR_spec (most := 400) (code := 4) (by omega) (by omega)).seq (fun n => hashR_spec.seq (fun _ => sigsR_spec.seq (fun _ => itemsR_spec w (capN n) (by unfold capN; split <;> omega)))))).map (e := bunE) (fun x => (x.fWhole, x.fPoint.fSize, x.fPoint.fRoot, x.fPoint.fSigs, x.fItems)) (fun _ => rfl)
  refine h.conv (fun x _ => rfl) (fun x => ⟨fun h => ⟨⟨trivial, h.size, h.root, h.sigs, ?_⟩, rfl⟩, fun h => ⟨h.1.2.1, h.1.2.2.1, h.1.2.2.2.1, ?_⟩⟩)
  · have h1 := h.size
    have := h.items
    simp only [capN]
    rwa [if_pos (by omega)]
  · have := h.1.2.2.2.2
    have h1 := h.1.2.1
    simp only [capN] at this h1
    rwa [if_pos (by omega)] at this

/-! ### the program reads -/
theorem numR_nat {r : Rd} (hr : Good r) : ∃ N : Nat, (numR r).1 = (N : Int) ∧ N < 2147483648 := by
  unfold numR
  split
  · split
    · rename_i _ h2
      obtain ⟨n, rest, h3, h4, h5⟩ := num_split hr.1 h2
      exact ⟨n, by rw [h5], h3⟩
    · exact ⟨0, rfl, by omega⟩
  · exact ⟨0, rfl, by omega⟩
theorem sigs_loop {K : Nat} (hK : 1000000000000 ≤ K) {N : Nat} (hN : N < 2147483648) {r : Rd} (hr : Good r) : bundle_read_api_Sig_l1.l K (N : Int) K ([], 0, r) = some (listR (fun _ => sigR) N 0 r) := by
  have := read_loop (L := bundle_read_api_Sig_l1.l K (N : Int)) (one := fun _ => sigR) (N := N) (by omega) (fun _ r hr => sigR_spec.good r hr)
    (fun k out r' => by
      show bundle_read_api_Sig_l1.b K (N : Int) (bundle_read_api_Sig_l1.l K (N : Int) k) _ = _
      unfold bundle_read_api_Sig_l1.b
      rw [bif_false (dec_f (by simp))])
    (fun k out i r' hi hb => by
      show bundle_read_api_Sig_l1.b K (N : Int) (bundle_read_api_Sig_l1.l K (N : Int) k) _ = _
      unfold bundle_read_api_Sig_l1.b
      rw [bif_true (dec_t (by simp only; omega)), rbad_eq]
      simp only [Option.bind_some]
      rw [bif_true (by simp [hb])])
    (fun k out i r' hi hb hg ho => by
      show bundle_read_api_Sig_l1.b K (N : Int) (bundle_read_api_Sig_l1.l K (N : Int) k) _ = _
      unfold bundle_read_api_Sig_l1.b bundle_Get_1.f
      rw [bif_true (dec_t (by simp only; omega)), rbad_eq]
      simp only [Option.bind_some]
      rw [bif_false (by simp [hb]), numR_eq hK hg]
      simp only [Option.bind_some]
      rw [hashR_eq (numR_spec.good _ hg)]
      simp only [Option.bind_some]
      rw [catI_ok (by simp; omega)]
      simp only [Option.bind_some]
      rw [wrap_succ (by omega)]
      rfl)
    N 0 [] r K (by omega) (by omega) hr (by simp)
  simpa using this
theorem sigs_read {K : Nat} (hK : 1000000000000 ≤ K) {r : Rd} (hr : Good r) : (wire_Reader_Num.f K r).bind (fun t => bundle_read_api_Sig.f K t.1 4 t.2) = some (sigsR r) := by
  have hg := numR_spec.good r hr
  rw [numR_eq hK hr]
  obtain ⟨N, hN, hN2⟩ := numR_nat hr
  unfold bundle_read_api_Sig.f sigsR cntR mapR seqR capR
  simp only [Option.bind_some, jn, hN, Int.toNat_natCast]
  by_cases h6 : (4 : Int) < N
  · rw [bif_true (dec_t h6), failR_eq (by omega)]
    simp only [Option.bind_some]
    rw [sigs_loop hK hN2 (failR_good hg)]
    simp [h6]
  · rw [bif_false (dec_f h6), sigs_loop hK hN2 hg]
    simp [h6]
theorem path_loop {K : Nat} (hK : 1000000000000 ≤ K) {N : Nat} (hN : N < 2147483648) {r : Rd} (hr : Good r) : bundle_read_api_Hash_l1.l K (N : Int) K ([], 0, r) = some (listR (fun _ => hashR) N 0 r) := by
  have := read_loop (L := bundle_read_api_Hash_l1.l K (N : Int)) (one := fun _ => hashR) (N := N) (by omega) (fun _ r hr => hashR_spec.good r hr)
    (fun k out r' => by
      show bundle_read_api_Hash_l1.b K (N : Int) (bundle_read_api_Hash_l1.l K (N : Int) k) _ = _
      unfold bundle_read_api_Hash_l1.b
      rw [bif_false (dec_f (by simp))])
    (fun k out i r' hi hb => by
      show bundle_read_api_Hash_l1.b K (N : Int) (bundle_read_api_Hash_l1.l K (N : Int) k) _ = _
      unfold bundle_read_api_Hash_l1.b
      rw [bif_true (dec_t (by simp only; omega)), rbad_eq]
      simp only [Option.bind_some]
      rw [bif_true (by simp [hb])])
    (fun k out i r' hi hb hg ho => by
      show bundle_read_api_Hash_l1.b K (N : Int) (bundle_read_api_Hash_l1.l K (N : Int) k) _ = _
      unfold bundle_read_api_Hash_l1.b bundle_Get_3_1.f
      rw [bif_true (dec_t (by simp only; omega)), rbad_eq]
      simp only [Option.bind_some]
      rw [bif_false (by simp [hb]), hashR_eq hg]
      simp only [Option.bind_some]
      rw [catI_ok (by simp; omega)]
      simp only [Option.bind_some]
      rw [wrap_succ (by omega)])
    N 0 [] r K (by omega) (by omega) hr (by simp)
  simpa using this
theorem path_read {K : Nat} (hK : 1000000000000 ≤ K) {r : Rd} (hr : Good r) : (wire_Reader_Num.f K r).bind (fun t => bundle_read_api_Hash.f K t.1 20 t.2) = some (pathR r) := by
  have hg := numR_spec.good r hr
  rw [numR_eq hK hr]
  obtain ⟨N, hN, hN2⟩ := numR_nat hr
  unfold bundle_read_api_Hash.f pathR cntR mapR seqR capR
  simp only [Option.bind_some, jn, hN, Int.toNat_natCast]
  by_cases h6 : (20 : Int) < N
  · rw [bif_true (dec_t h6), failR_eq (by omega)]
    simp only [Option.bind_some]
    rw [path_loop hK hN2 (failR_good hg)]
    simp [h6]
  · rw [bif_false (dec_f h6), path_loop hK hN2 hg]
    simp [h6]
end Go.Proofs.Ytnnhkfmknlfpbaa
