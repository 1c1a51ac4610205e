/-
 The plain law of ExportSagas.
-/
import Derived.Test.YtjgaokcplofimaaDoorPureEz
namespace Go.Proofs.YtjgaokcplofimaaDoor
open Go Go.Sep
theorem alive18 : inspeximuslaw18_alive.f 1000000000000 = some true := by kernel_rfl
theorem right_saga {x : Rc} (h : rightS x = true) : 0 ≤ x.fSaga ∧ x.fSaga ≤ 11 := by
 unfold rightS rangesS at h
 simp only [Bool.and_eq_true] at h
 exact inn_iff.1 h.1.1
abbrev Had := Vector Int 64
theorem sg_l2 {r1 : Bun × Bool} {pl : List Nat} {g : Nat → It} (hfi : r1.1.fItems = pl.map g) (hgA : ∀ i, (g i).fAt = (i : Int)) (hlen : pl.length ≤ 1000) : ∀ (suf pre : List Nat) (v : Had) (k : Nat), pl = pre ++ suf → suf.length < k → (∀ i ∈ suf, i < 64) → suf.Nodup → (∀ i ∈ suf, 0 ≤ vget v i ∧ vget v i ≤ 1) →
  ∃ v' : Had, inspeximuslaw18_ExportSagas_l2.l 1000000000000 r1 k ((pre.length : Int), v) = some v' ∧ ∀ i, i < 64 → vget v' i = vget v i + (if i ∈ suf then 1 else 0) := by
 intro suf
 induction suf with
 | nil =>
  intro pre v k hp hk _ _ _
  obtain ⟨k, rfl⟩ : ∃ j, k = j + 1 := ⟨k - 1, by omega⟩
  refine ⟨v, ?_, fun i _ => by simp⟩
  show inspeximuslaw18_ExportSagas_l2.b 1000000000000 r1 (inspeximuslaw18_ExportSagas_l2.l 1000000000000 r1 k) _ = _
  unfold inspeximuslaw18_ExportSagas_l2.b
  rw [bif_false (dec_f (by rw [hfi, List.length_map, hp]; simp))]
 | cons a suf ih =>
  intro pre v k hp hk h64 hnd hv
  obtain ⟨k, rfl⟩ : ∃ j, k = j + 1 := ⟨k - 1, by omega⟩
  have ha := h64 a (List.mem_cons_self ..)
  have hva := hv a (List.mem_cons_self ..)
  obtain ⟨n1, n2⟩ := List.nodup_cons.1 hnd
  have hpl := congrArg List.length hp
  simp only [List.length_append, List.length_cons] at hpl hk
  have hget : r1.1.fItems[pre.length]? = some (g a) := by
   rw [hfi, List.getElem?_map, hp]
   simp
  have hm : Int.tmod (g a).fAt 64 = (a : Int) := by
   rw [hgA]
   show (((a % 64 : Nat)) : Int) = _
   rw [Nat.mod_eq_of_lt ha]
  have hin : inA 64 (a : Int) = true := by
   unfold inA
   rw [dec_t (show (0 : Int) ≤ (a : Int) by omega), dec_t (show (a : Int) < ((64 : Nat) : Int) by omega)]; rfl
  obtain ⟨v', h1, h2⟩ := ih (pre ++ [a]) (vset v a (vget v a + 1)) k (by rw [hp]; simp) (by omega) (fun i hi => h64 i (List.mem_cons_of_mem _ hi)) n2 (fun i hi => by
   rw [vget_vset v _ (h64 i (List.mem_cons_of_mem _ hi)), if_neg (fun e => n1 (by rw [e]; exact hi))]
   exact hv i (List.mem_cons_of_mem _ hi))
  refine ⟨v', ?_, fun i hi => ?_⟩
  ·show inspeximuslaw18_ExportSagas_l2.b 1000000000000 r1 (inspeximuslaw18_ExportSagas_l2.l 1000000000000 r1 k) _ = _
   unfold inspeximuslaw18_ExportSagas_l2.b
   rw [bif_true (dec_t (show (pre.length : Int) < ((r1.1.fItems.length : Nat) : Int) by rw [hfi, List.length_map]; omega)), bnd (getI_lt hget), hm]
   simp only [chk, hin, cond_true, Option.bind_some, Int.toNat_natCast]
   rw [wrap_succ (by omega), wrap64 (by omega) (by omega)]
   rw [List.length_append, List.length_singleton] at h1
   exact h1
  ·rw [h2 i hi, vget_vset v _ hi]
   by_cases e : a = i
   ·subst e
    rw [if_pos rfl, if_neg n1, if_pos (List.mem_cons_self ..)]
    omega
   ·rw [if_neg e]
    have : (i ∈ a :: suf) ↔ i ∈ suf := by
     rw [List.mem_cons]
     exact ⟨fun h => h.resolve_left (fun e' => e e'.symm), .inr⟩
    by_cases hi2 : i ∈ suf
    ·rw [if_pos hi2, if_pos (this.2 hi2)]
    ·rw [if_neg hi2, if_neg (fun h => hi2 (this.1 h))]
/-- how often a place was met behind so many sagas -/
def cntE (l : List Rc) (n s i : Nat) : Int := if i < n ∧ (l[i]?.getD zRc).fKind ≠ 6 ∧ 0 ≤ (l[i]?.getD zRc).fSaga ∧ (l[i]?.getD zRc).fSaga < (s : Int) then 1 else 0
theorem cnt_bd (l : List Rc) (n s i : Nat) : 0 ≤ cntE l n s i ∧ cntE l n s i ≤ 1 := by
 unfold cntE
 split <;> omega
theorem cnt_succ {l : List Rc} {p : T_api_Point} {n : Nat} (hn : p.fSize = (n : Int)) (s i : Nat) : cntE l n (s + 1) i = cntE l n s i + (if i ∈ placesE l p (selS l (s : Int)) then 1 else 0) := by
 have hmem : i ∈ placesE l p (selS l (s : Int)) ↔ i < n ∧ (l[i]?.getD zRc).fKind ≠ 6 ∧ (l[i]?.getD zRc).fSaga = (s : Int) := by
  unfold placesE selS
  rw [hn, Int.toNat_natCast, List.mem_filter, List.mem_range'_1]
  simp
 unfold cntE
 generalize (l[i]?.getD zRc).fSaga = a at *
 by_cases h1 : i < n ∧ (l[i]?.getD zRc).fKind ≠ 6
 ·by_cases h2 : a = (s : Int)
  ·rw [if_pos (hmem.2 ⟨h1.1, h1.2, h2⟩), if_pos ⟨h1.1, h1.2, by omega, by omega⟩, if_neg (fun h => by omega)]
   rfl
  ·rw [if_neg (show ¬ i ∈ placesE l p (selS l (s : Int)) from fun h => h2 (hmem.1 h).2.2)]
   by_cases h3 : 0 ≤ a ∧ a < (s : Int)
   ·rw [if_pos ⟨h1.1, h1.2, by omega, by omega⟩, if_pos ⟨h1.1, h1.2, by omega, by omega⟩]; rfl
   ·rw [if_neg (fun h => h3 ⟨h.2.2.1, by omega⟩), if_neg (fun h => h3 ⟨h.2.2.1, h.2.2.2⟩)]; rfl
 ·rw [if_neg (fun h => h1 ⟨h.1, h.2.1⟩), if_neg (fun h => h1 ⟨h.1, h.2.1⟩), if_neg (show ¬ i ∈ placesE l p (selS l (s : Int)) from fun h => h1 ⟨(hmem.1 h).1, (hmem.1 h).2.1⟩)]; rfl
theorem law_ExportSagas {K : Nat} (hK : K = 1000000000000) (l : List Rc) (p : T_api_Point) (mask : Int) (hd : ∀ x ∈ l, isB x.fData) : inspeximuslaw18_ExportSagas.f K l p mask = some true := by
 subst hK
 unfold inspeximuslaw18_ExportSagas.f
 rw [bnd alive18, bif_false (by rfl), bnd (few_eq l p)]
 cases hf : fewE l p with
 | false => rfl
 | true =>
 have h := few_ok hf hd
 have h50 := h.len
 rw [bif_false (by rfl), bnd (whole_eq h mask), made_whole h]
 cases hg : gd l p && pointOk p with
 | false => rfl
 | true =>
 simp only [cond_true]
 rw [bif_false (by rfl)]
 have hg1 : gd l p = true := by cases hh : gd l p with | true => rfl | false => rw [hh] at hg; cases hg
 obtain ⟨hr, n, hn, hn2⟩ := gd_iff hg1
 have key : ∀ (m s : Nat) (v : Had) (k : Nat), s + m = 12 → m < k → (∀ i, i < 64 → vget v i = cntE l n s i) → ∃ v' : Had, inspeximuslaw18_ExportSagas_l1.l 1000000000000 l p mask k ((s : Int), v) = some (.inr v') ∧ ∀ i, i < 64 → vget v' i = cntE l n 12 i := by
  intro m
  induction m with
  | zero =>
   intro s v k hs hk hv
   obtain ⟨k, rfl⟩ : ∃ j, k = j + 1 := ⟨k - 1, by omega⟩
   refine ⟨v, ?_, by rw [show (12 : Nat) = s by omega]; exact hv⟩
   show inspeximuslaw18_ExportSagas_l1.b 1000000000000 l p mask (inspeximuslaw18_ExportSagas_l1.l 1000000000000 l p mask k) _ = _
   unfold inspeximuslaw18_ExportSagas_l1.b
   rw [bif_false (dec_f (by simp only; omega))]
  | succ m ih =>
   intro s v k hs hk hv
   obtain ⟨k, rfl⟩ : ∃ j, k = j + 1 := ⟨k - 1, by omega⟩
   have hmade := made_some h (mask := mask) (pl := placesE l p (selS l (s : Int))) placesE_lt places_sorted places_len
   rw [hg] at hmade
   simp only [cond_true] at hmade
   have hpl := placesE_lt (sel := selS l (s : Int)) hg1
   obtain ⟨v1, h1, h2⟩ := sg_l2 (r1 := (xbunE l p mask false (placesE l p (selS l (s : Int))), true)) (g := gE l mask false (hashE l p)) (pl := placesE l p (selS l (s : Int))) rfl (fun _ => rfl) (placesE_len h hg1)
    (placesE l p (selS l (s : Int))) [] v 1000000000000 rfl (by have := placesE_len (sel := selS l (s : Int)) h hg1; omega) (fun i hi => by have := hpl i hi; omega)
    ((places_sorted (sel := selS l (s : Int))).imp (fun h => Nat.ne_of_lt h)) (fun i hi => by
     have := hpl i hi
     rw [hv i (by omega)]; exact cnt_bd ..)
   obtain ⟨v', h3, h4⟩ := ih (s + 1) v1 k (by omega) (by omega) (fun i hi => by rw [h2 i hi, hv i hi, cnt_succ hn])
   refine ⟨v', ?_, h4⟩
   show inspeximuslaw18_ExportSagas_l1.b 1000000000000 l p mask (inspeximuslaw18_ExportSagas_l1.l 1000000000000 l p mask k) _ = _
   unfold inspeximuslaw18_ExportSagas_l1.b
   have h1' : inspeximuslaw18_ExportSagas_l2.l 1000000000000 (xbunE l p mask false (placesE l p (selS l (s : Int))), true) 1000000000000 (0, v) = some v1 := h1
   rw [bif_true (dec_t (by simp only; omega)), bnd (saga_eq h mask (s : Int)), hmade]
   rw [bif_false (by rfl)]
   try dsimp only
   rw [bnd h1', wrap_succ (by omega)]
   exact h3
 have hz : ∀ i, i < 64 → vget (Vector.replicate 64 (0 : Int)) i = cntE l n 0 i := fun i hi => by
  have e : vget (Vector.replicate 64 (0 : Int)) i = 0 := by
   unfold vget
   rw [Vector.toList_replicate, List.getD_eq_getElem?_getD, List.getElem?_replicate]
   split <;> rfl
  rw [e]
  unfold cntE
  rw [if_neg (fun h => by omega)]
 obtain ⟨v, h1, h2⟩ := key 12 0 (Vector.replicate 64 (0 : Int)) 1000000000000 rfl (by omega) hz
 have h1 : inspeximuslaw18_ExportSagas_l1.l 1000000000000 l p mask 1000000000000 (0, Vector.replicate 64 (0 : Int)) = some (.inr v) := h1
 rw [bnd h1]
 try dsimp only
 have hL := loop_thru (L := inspeximuslaw18_ExportSagas_l3.l 1000000000000 l p v) (n := n) (r := Sum.inr ())
  (fun k => by
   show inspeximuslaw18_ExportSagas_l3.b 1000000000000 _ _ _ (inspeximuslaw18_ExportSagas_l3.l 1000000000000 _ _ _ k) _ = _
   unfold inspeximuslaw18_ExportSagas_l3.b
   rw [bif_false (dec_f (by omega))])
  (fun k i hi => by
   obtain ⟨x, hx⟩ := getI_ex (l := l) (i := i) (by omega)
   have hx' := hx
   rw [getI_nat] at hx'
   have hxr := right_saga (List.all_eq_true.1 hr x (List.mem_of_getElem? hx'))
   have hc : vget v i = if x.fKind = 6 then 0 else 1 := by
    rw [h2 i (by omega)]
    unfold cntE
    rw [hx', Option.getD_some]
    by_cases h6 : x.fKind = 6
    ·rw [if_pos h6, if_neg (fun h => h.2.1 h6)]
    ·rw [if_neg h6, if_pos ⟨hi, h6, by omega, by omega⟩]
   have hin : inA 64 (i : Int) = true := by
    unfold inA
    rw [dec_t (show (0 : Int) ≤ (i : Int) by omega), dec_t (show (i : Int) < ((64 : Nat) : Int) by omega)]; rfl
   show inspeximuslaw18_ExportSagas_l3.b 1000000000000 _ _ _ (inspeximuslaw18_ExportSagas_l3.l 1000000000000 _ _ _ k) _ = _
   unfold inspeximuslaw18_ExportSagas_l3.b
   rw [bif_true (dec_t (by omega))]
   refine Eq.trans (jn_val (vget v i) (fun j => ?_)) ?_
   ·try dsimp only
    rw [bnd hx, hc]
    by_cases h6 : x.fKind = 6
    ·rw [bif_true (dec_t h6), if_pos h6]
    ·rw [bif_false (dec_f h6), if_neg h6]
   ·try dsimp only
    simp only [chk, hin, cond_true, Int.toNat_natCast]
    rw [bif_false (by simp), wrap_succ (by omega)])
  n 0 1000000000000 (by omega) (by omega)
 have hL : inspeximuslaw18_ExportSagas_l3.l 1000000000000 l p v 1000000000000 0 = some (.inr ()) := hL
 rw [bnd hL]
end Go.Proofs.YtjgaokcplofimaaDoor
