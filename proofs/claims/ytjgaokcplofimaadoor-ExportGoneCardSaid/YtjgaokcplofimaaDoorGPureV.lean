/-
 Plain: bundles' bytes, and how they are read.
-/
import Derived.Test.YtjgaokcplofimaaDoorGPureU
namespace Go.Proofs.YtjgaokcplofimaaDoor
open Go Go.Sep
/-! ### bytes -/
def sigW (s : Sg) : List Int := numW s.fWit ++ vlist s.fTag
def sigsW (l : List Sg) : List Int := numS l.length ++ (l.map sigW).flatten
def hashW (h : H32) : List Int := vlist h
def pathW (l : List H32) : List Int := numS l.length ++ (l.map hashW).flatten
def itemW (x : It) : List Int := numW x.fAt ++ (openW x.fRec ++ pathW x.fPath)
def wholeW (x : It) : List Int := openW x.fRec
def itemsW (whole : Bool) (l : List It) : List Int := bif whole then (l.map wholeW).flatten else numS l.length ++ (l.map itemW).flatten
def bunW (x : Bun) : List Int := [flagI x.fWhole] ++ (numW x.fPoint.fSize ++ (vlist x.fPoint.fRoot ++ (sigsW x.fPoint.fSigs ++ itemsW x.fWhole x.fItems)))
def mark : List Int := [105, 110, 115, 112]
/-! ### what a right bundle has -/
theorem itemsOk_mem {whole : Bool} {size : Int} (hs : 0 ≤ size ∧ size ≤ 400) : ∀ {l : List It} {last : Int} {i : Nat}, -1 ≤ last → itemsOk whole size last i l = true →
  ∀ x ∈ l, rightS x.fRec = true ∧ inN x.fAt ∧ x.fPath.length ≤ 20 := by
 intro l
 induction l with
 | nil => intro last i _ _ x hx; cases hx
 | cons y l ih =>
  intro last i hl h x hx
  unfold itemsOk itemOk at h
  simp only [Bool.and_eq_true] at h
  obtain ⟨⟨h1, h2, h3, _⟩, h4⟩ := h
  have h2 := inn_iff.1 h2
  have h3 := of_decide_eq_true h3
  rcases List.mem_cons.1 hx with rfl | hx
  ·exact ⟨h1, by omega, by omega⟩
  ·exact ih (by omega) h4 x hx
structure RightP (x : Bun) : Prop where
 size : 0 ≤ x.fPoint.fSize ∧ x.fPoint.fSize ≤ 400
 sigs : x.fPoint.fSigs.length ≤ 4
 wits : ∀ s ∈ x.fPoint.fSigs, inN s.fWit
 len : x.fItems.length ≤ 400
 lens : (x.fItems.length : Int) ≤ x.fPoint.fSize
 whole : x.fWhole = true → (x.fItems.length : Int) = x.fPoint.fSize
 ok : itemsOk x.fWhole x.fPoint.fSize (-1) 0 x.fItems = true
 items : ∀ y ∈ x.fItems, rightS y.fRec = true ∧ inN y.fAt ∧ y.fPath.length ≤ 20
theorem rightP {x : Bun} (h : rightB x = true) : RightP x := by
 unfold rightB pointOk at h
 simp only [Bool.and_eq_true] at h
 obtain ⟨⟨h1, h2, h3⟩, h4, h5, h6⟩ := h
 have h1 := inn_iff.1 h1
 have h2 := of_decide_eq_true h2
 have h4 := of_decide_eq_true h4
 refine ⟨h1, by omega, fun s hs => ?_, by omega, h4, fun hw => ?_, h6, itemsOk_mem h1 (by omega) h6⟩
 ·have := List.all_eq_true.1 h3 s hs
  exact inn_N this (by omega) (by omega)
 ·rw [hw] at h5
  simpa using h5
theorem sigW_len {s : Sg} (h : inN s.fWit) : (sigW s).length ≤ 37 := by
 have := numW_len h
 simp [sigW, vlist_length]; omega
theorem sigsW_len {x : Bun} (h : RightP x) : (sigsW x.fPoint.fSigs).length ≤ 200 := by
 have h1 : (x.fPoint.fSigs.map sigW).flatten.length ≤ 37 * x.fPoint.fSigs.length := flat_len (fun s hs => sigW_len (h.wits s hs))
 have h2 := numS_len (n := x.fPoint.fSigs.length) (by have := h.sigs; omega)
 have := h.sigs
 simp only [sigsW, List.length_append]; omega
theorem pathW_len {l : List H32} (h : l.length ≤ 20) : (pathW l).length ≤ 645 := by
 have h1 : (l.map hashW).flatten.length ≤ 32 * l.length := flat_len (fun s _ => by unfold hashW; rw [vlist_length]; omega)
 have h2 := numS_len (n := l.length) (by omega)
 simp only [pathW, List.length_append]; omega
theorem itemW_len {y : It} (h : rightS y.fRec = true ∧ inN y.fAt ∧ y.fPath.length ≤ 20) : (itemW y).length ≤ 1000 ∧ 0 < (itemW y).length := by
 have h1 := openW_len h.1
 have h2 := numW_len h.2.1
 have h3 := pathW_len h.2.2
 simp only [itemW, List.length_append]; omega
theorem itemsW_len {x : Bun} (h : RightP x) (w : Bool) : (itemsW w x.fItems).length ≤ 500000 := by
 have hl := h.len
 cases w
 ·have h1 : (x.fItems.map itemW).flatten.length ≤ 1000 * x.fItems.length := flat_len (fun y hy => (itemW_len (h.items y hy)).1)
  have h2 := numS_len (n := x.fItems.length) (by omega)
  simp only [itemsW, cond_false, List.length_append]; omega
 ·have h1 : (x.fItems.map wholeW).flatten.length ≤ 305 * x.fItems.length := flat_len (fun y hy => (openW_len (h.items y hy).1).1)
  simp only [itemsW, cond_true]; omega
theorem bunW_len {x : Bun} (h : RightP x) : (bunW x).length ≤ 600000 := by
 have h1 := itemsW_len h x.fWhole
 have h2 := sigsW_len h
 have h3 := numW_len (n := x.fPoint.fSize) (by have := h.size; omega)
 simp only [bunW, List.length_append, vlist_length, List.length_singleton]; omega
/-! ### the program puts -/
theorem sigs_put {K : Nat} (hK : 1000000000000 ≤ K) {l : List Sg} (hl : l.length ≤ 4) (h : ∀ s ∈ l, inN s.fWit) : bundle_list_api_Sig.f K l = some (sigsW l) := by
 unfold bundle_list_api_Sig.f
 have hn := num_eq (K := K) (n := l.length) hK (by omega)
 rw [hn]
 simp only [Option.bind_some]
 have h1 : (l.map sigW).flatten.length ≤ 37 * l.length := flat_len (fun s hs => sigW_len (h s hs))
 have h2 := numS_len (n := l.length) (by omega)
 have := cat_loop (L := bundle_list_api_Sig_l1.l K l) l sigW (numS l.length) (k := K) (by omega)
  (fun k s => by
   show bundle_list_api_Sig_l1.b K l (bundle_list_api_Sig_l1.l K l k) _ = _
   unfold bundle_list_api_Sig_l1.b
   rw [bif_false (dec_f (by simp))])
  (fun k s i y hi hx hm hs => by
   show bundle_list_api_Sig_l1.b K l (bundle_list_api_Sig_l1.l K l k) _ = _
   unfold bundle_list_api_Sig_l1.b
   rw [bif_true (dec_t (by simp; omega))]
   simp only
   rw [hx]
   simp only [Option.bind_some]
   have hy := h y hm
   have hw := numW_len hy
   have e : bundle_Put_1.f K y = some (sigW y) := by
    unfold bundle_Put_1.f
    rw [num_w hK hy]
    simp only [Option.bind_some]
    rw [hash_eq]
    simp only [Option.bind_some]
    rw [all_eq hK (by simp [vlist_length]; omega) (by simp)]
    simp [sigW]
   rw [e]
   simp only [Option.bind_some]
   rw [catI_ok (by omega)]
   simp only [Option.bind_some]
   rw [wrap_succ (by omega)])
  (by omega)
 rw [this]
 rfl
theorem path_put {K : Nat} (hK : 1000000000000 ≤ K) {l : List H32} (hl : l.length ≤ 20) : bundle_list_api_Hash.f K l = some (pathW l) := by
 unfold bundle_list_api_Hash.f
 have hn := num_eq (K := K) (n := l.length) hK (by omega)
 rw [hn]
 simp only [Option.bind_some]
 have h1 : (l.map hashW).flatten.length ≤ 32 * l.length := flat_len (fun s _ => by unfold hashW; rw [vlist_length]; omega)
 have h2 := numS_len (n := l.length) (by omega)
 have := cat_loop (L := bundle_list_api_Hash_l1.l K l) l hashW (numS l.length) (k := K) (by omega)
  (fun k s => by
   show bundle_list_api_Hash_l1.b K l (bundle_list_api_Hash_l1.l K l k) _ = _
   unfold bundle_list_api_Hash_l1.b
   rw [bif_false (dec_f (by simp))])
  (fun k s i y hi hx hm hs => by
   show bundle_list_api_Hash_l1.b K l (bundle_list_api_Hash_l1.l K l k) _ = _
   unfold bundle_list_api_Hash_l1.b
   rw [bif_true (dec_t (by simp; omega))]
   simp only
   rw [hx]
   simp only [Option.bind_some]
   rw [hash_eq]
   simp only [Option.bind_some]
   unfold hashW at hs ⊢
   rw [catI_ok (by omega)]
   simp only [Option.bind_some]
   rw [wrap_succ (by omega)])
  (by omega)
 rw [this]
 rfl
theorem item_put {K : Nat} (hK : 1000000000000 ≤ K) {y : It} (ho : okItem y) (h : rightS y.fRec = true ∧ inN y.fAt ∧ y.fPath.length ≤ 20) : bundle_item.f K y = some (itemW y) := by
 unfold bundle_item.f
 rw [num_w hK h.2.1]
 simp only [Option.bind_some]
 rw [open_eq hK ho.d, h.1]
 simp only [Option.bind_some, cond_true]
 rw [path_put hK h.2.2]
 simp only [Option.bind_some]
 have h4 := itemW_len h
 simp only [itemW, List.length_append] at h4
 rw [all_eq hK (by simp; omega) (by simp)]
 simp [itemW]
theorem put_eq {K : Nat} (hK : 1000000000000 ≤ K) {x : Bun} (ho : okBun x) : bundle_Put.f K x = some (bif rightB x then mark ++ bunW x else []) := by
 unfold bundle_Put.f
 rw [rightB_eq hK ho]
 simp only [Option.bind_some]
 cases hr : rightB x with
 | false => rfl
 | true =>
 have hp := rightP hr
 rw [bif_false (by rfl)]
 simp only [jn]
 have hsz := hp.size
 have w1 := numW_len (n := x.fPoint.fSize) (by omega)
 have w2 := sigsW_len hp
 have w3 := itemsW_len hp
 have hl := hp.len
 refine bind_of flag_eq ?_
 refine bind_of (num_w hK (by omega)) ?_
 refine bind_of hash_eq ?_
 refine bind_of (sigs_put hK hp.sigs hp.wits) ?_
 refine bind_of (all_eq hK (by simp [vlist_length]; omega) (by simp)) ?_
 have hhl : (([[(105 : Int), 110, 115, 112], [flagI x.fWhole], numW x.fPoint.fSize, vlist x.fPoint.fRoot, sigsW x.fPoint.fSigs] : List (List Int)).flatten).length ≤ 300 := by simp [vlist_length]; omega
 generalize hh : ([[(105 : Int), 110, 115, 112], [flagI x.fWhole], numW x.fPoint.fSize, vlist x.fPoint.fRoot, sigsW x.fPoint.fSigs] : List (List Int)).flatten = hd at hhl
 have he : mark ++ bunW x = hd ++ itemsW x.fWhole x.fItems := by rw [← hh]; simp [mark, bunW]
 rw [he]
 cases hw : x.fWhole with
 | false =>
  rw [bif_true (by rfl)]
  have e : bundle_list_api_Item.f K x.fItems = some (itemsW false x.fItems) := by
   unfold bundle_list_api_Item.f
   have hn := num_eq (K := K) (n := x.fItems.length) hK (by omega)
   rw [hn]
   simp only [Option.bind_some]
   have w4 := w3 false
   simp only [itemsW, cond_false, List.length_append] at w4
   have := cat_loop (L := bundle_list_api_Item_l1.l K x.fItems) x.fItems itemW (numS x.fItems.length) (k := K) (by omega)
    (fun k s => by
     show bundle_list_api_Item_l1.b K x.fItems (bundle_list_api_Item_l1.l K x.fItems k) _ = _
     unfold bundle_list_api_Item_l1.b
     rw [bif_false (dec_f (by simp))])
    (fun k s i y hi hx hm hs => by
     show bundle_list_api_Item_l1.b K x.fItems (bundle_list_api_Item_l1.l K x.fItems k) _ = _
     unfold bundle_list_api_Item_l1.b
     rw [bif_true (dec_t (by simp; omega))]
     simp only
     rw [hx]
     simp only [Option.bind_some]
     rw [item_put hK (ho.items y hm) (hp.items y hm)]
     simp only [Option.bind_some]
     rw [catI_ok (by omega)]
     simp only [Option.bind_some]
     rw [wrap_succ (by omega)])
    (by omega)
   rw [this]
   rfl
  have w4 := w3 false
  rw [e]
  simp only [Option.bind_some, cond_true]
  rw [catI_ok (by omega)]
  rfl
 | true =>
  rw [bif_false (by rfl)]
  have w4 := w3 true
  simp only [itemsW, cond_true] at w4
  have := cat_loop (L := bundle_Put_l1.l K x) x.fItems wholeW hd (k := K) (by omega)
   (fun k s => by
    show bundle_Put_l1.b K x (bundle_Put_l1.l K x k) _ = _
    unfold bundle_Put_l1.b
    rw [bif_false (dec_f (by simp))])
   (fun k s i y hi hx hm hs => by
    show bundle_Put_l1.b K x (bundle_Put_l1.l K x k) _ = _
    unfold bundle_Put_l1.b
    rw [bif_true (dec_t (by simp; omega))]
    simp only
    rw [hx]
    simp only [Option.bind_some]
    rw [open_eq hK (ho.items y hm).d, (hp.items y hm).1]
    simp only [Option.bind_some, cond_true]
    unfold wholeW at hs ⊢
    rw [catI_ok (by omega)]
    simp only [Option.bind_some]
    rw [wrap_succ (by omega)])
   (by omega)
  rw [this]
  rfl
/-! ### readers -/
/-! ### the program reads -/
end Go.Proofs.YtjgaokcplofimaaDoor
