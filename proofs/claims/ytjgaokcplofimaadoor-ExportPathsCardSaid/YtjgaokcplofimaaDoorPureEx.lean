/-
 Plain: exported bundles: hashes, roots and paths are there, items, what a bundle of places comes to.
-/
import Derived.Test.YtjgaokcplofimaaDoorPureU
namespace Go.Proofs.YtjgaokcplofimaaDoor
open Go Go.Sep
theorem jn_val {α β : Type} {g : α → Option β} {f : (α → Option β) → Option β} (v : α) (h : ∀ j, f j = j v) : jn g f = g v := h g
theorem bnd {α β : Type} {o : Option α} {x : α} {f : α → Option β} (h : o = some x) : o.bind f = f x := by rw [h]; rfl
/-! ### splits -/
def dpt (n : Nat) : Nat := Nat.log2 (2 * n - 1)
def chkS (n : Nat) : Bool := match tree_Split.f 1000000000000 (n : Int) with
 | some k => decide (0 < k) && (decide (k < (n : Int)) && (decide (dpt k.toNat < dpt n) && (decide (dpt (n - k.toNat) < dpt n) && decide (dpt n ≤ 20))))
 | none => false
theorem split_tab : ((List.range 51).all fun n => decide (n < 2) || chkS n) = true := by kernel_rfl
theorem split_eq {n : Nat} (h1 : 2 ≤ n) (h2 : n ≤ 50) : ∃ k : Nat, tree_Split.f 1000000000000 (n : Int) = some (k : Int) ∧ 0 < k ∧ k < n ∧ dpt k < dpt n ∧ dpt (n - k) < dpt n ∧ dpt n ≤ 20 := by
 have h := List.all_eq_true.1 split_tab n (List.mem_range.2 (by omega))
 simp only [Bool.or_eq_true, decide_eq_true_eq] at h
 rcases h with h | h
 ·omega
 unfold chkS at h
 split at h
 ·rename_i k hk
  simp only [Bool.and_eq_true, decide_eq_true_eq] at h
  obtain ⟨a, b, c, d, e⟩ := h
  obtain ⟨m, rfl⟩ := Int.eq_ofNat_of_zero_le (show 0 ≤ k by omega)
  simp only [Int.toNat_natCast] at c d
  exact ⟨m, hk, by omega, by omega, c, d, e⟩
 ·cases h
/-! ### digests -/
theorem leaf_tot {b : List Int} (h : b.length < 900000) : ∃ r, tree_Leaf.f 1000000000000 b = some r := by
 unfold tree_Leaf.f
 obtain ⟨r, hr, _⟩ := sum_tot (K := 1000000000000) (Nat.le_refl _) (x := [[0], b]) (by simp) (by simp; omega)
 exact ⟨r, bind_of hr rfl⟩
theorem node_tot (a b : H32) : ∃ r, tree_Node.f 1000000000000 a b = some r := by
 unfold tree_Node.f
 have hs : ∀ v : H32, subI (vlist v) 0 ((32 : Nat) : Int) = some (vlist v) := fun v => by
  have := subI_0 (l := vlist v) (b := 32) (by rw [vlist_length]; omega)
  rw [List.take_of_length_le (by rw [vlist_length]; omega)] at this
  exact this
 obtain ⟨r, hr, _⟩ := sum_tot (K := 1000000000000) (Nat.le_refl _) (x := [[1], vlist a, vlist b]) (by simp) (by simp [vlist_length])
 exact ⟨r, bind_of (hs a) (bind_of (hs b) (bind_of hr rfl))⟩
theorem root_tot : ∀ (n : Nat) (l : List H32) (k : Nat), l.length ≤ n → l.length ≤ 50 → n < k → ∃ r, tree_Root.r 1000000000000 k l = some r := by
 intro n
 induction n with
 | zero =>
  intro l k h _ hk
  obtain ⟨k, rfl⟩ : ∃ j, k = j + 1 := ⟨k - 1, by omega⟩
  show ∃ r, tree_Root.b 1000000000000 (tree_Root.r 1000000000000 k) l = _
  unfold tree_Root.b
  rw [bif_true (dec_t (by omega))]
  obtain ⟨r, hr, _⟩ := sum_tot (K := 1000000000000) (Nat.le_refl _) (x := []) (by simp) (by simp)
  exact ⟨r, bind_of hr rfl⟩
 | succ n ih =>
  intro l k h h50 hk
  obtain ⟨k, rfl⟩ : ∃ j, k = j + 1 := ⟨k - 1, by omega⟩
  show ∃ r, tree_Root.b 1000000000000 (tree_Root.r 1000000000000 k) l = _
  unfold tree_Root.b
  by_cases h0 : l.length = 0
  ·rw [bif_true (dec_t (by omega))]
   obtain ⟨r, hr, _⟩ := sum_tot (K := 1000000000000) (Nat.le_refl _) (x := []) (by simp) (by simp)
   exact ⟨r, bind_of hr rfl⟩
  rw [bif_false (dec_f (by omega))]
  by_cases h1 : l.length = 1
  ·rw [bif_true (dec_t (by omega))]
   obtain ⟨x, hx⟩ := getI_ex (l := l) (i := 0) (by omega)
   exact ⟨x, bind_of hx rfl⟩
  rw [bif_false (dec_f (by omega))]
  obtain ⟨s, hs, s1, s2, _⟩ := split_eq (n := l.length) (by omega) h50
  refine bind_ex hs ?_
  refine bind_ex (subI_0 (by omega)) ?_
  refine bind_ex (subI_all (by omega)) ?_
  obtain ⟨a, ha⟩ := ih (l.take s) k (by simp; omega) (by simp; omega) (by omega)
  obtain ⟨b, hb⟩ := ih (l.drop s) k (by simp; omega) (by simp; omega) (by omega)
  refine bind_ex ha ?_
  refine bind_ex hb ?_
  obtain ⟨r, hr⟩ := node_tot a b
  exact ⟨r, bind_of hr rfl⟩
theorem root_ex {l : List H32} (h : l.length ≤ 50) : ∃ r, tree_Root.f 1000000000000 l = some r := root_tot 50 l _ h h (by omega)
theorem path_tot : ∀ (d : Nat) (l : List H32) (i k : Nat), d ≤ 20 → dpt l.length ≤ d → i < l.length → l.length ≤ 50 → d < k → ∃ r, proof_Path.r 1000000000000 k l (i : Int) = some (r, true) ∧ r.length ≤ d := by
 intro d
 induction d with
 | zero =>
  intro l i k hd20 hd hi h50 hk
  obtain ⟨k, rfl⟩ : ∃ j, k = j + 1 := ⟨k - 1, by omega⟩
  show ∃ r, proof_Path.b 1000000000000 (proof_Path.r 1000000000000 k) l (i : Int) = _ ∧ _
  unfold proof_Path.b
  simp only [jn]
  rw [bif_false (dec_f (show ¬ (i : Int) < 0 by omega)), dec_f (show ¬ (l.length : Int) ≤ (i : Int) by omega)]
  simp only [cond_false]
  by_cases h1 : l.length = 1
  ·rw [bif_true (dec_t (by omega))]
   exact ⟨[], rfl, by simp⟩
  ·obtain ⟨s, _, _, _, s3, _⟩ := split_eq (n := l.length) (by omega) h50
   omega
 | succ d ih =>
  intro l i k hd20 hd hi h50 hk
  obtain ⟨k, rfl⟩ : ∃ j, k = j + 1 := ⟨k - 1, by omega⟩
  show ∃ r, proof_Path.b 1000000000000 (proof_Path.r 1000000000000 k) l (i : Int) = _ ∧ _
  unfold proof_Path.b
  simp only [jn]
  rw [bif_false (dec_f (show ¬ (i : Int) < 0 by omega)), dec_f (show ¬ (l.length : Int) ≤ (i : Int) by omega)]
  simp only [cond_false]
  by_cases h1 : l.length = 1
  ·rw [bif_true (dec_t (by omega))]
   exact ⟨[], rfl, by simp⟩
  rw [bif_false (dec_f (by omega))]
  obtain ⟨s, hs, s1, s2, s3, s4, _⟩ := split_eq (n := l.length) (by omega) h50
  have ht : (l.take s).length = s := by simp; omega
  have hdl : (l.drop s).length = l.length - s := by simp
  rw [bnd hs]
  by_cases hc : i < s
  ·rw [bif_true (dec_t (by omega)), bnd (subI_0 (by omega))]
   obtain ⟨r, hr, hrl⟩ := ih (l.take s) i k (by omega) (by rw [ht]; omega) (by omega) (by omega) (by omega)
   obtain ⟨q, hq⟩ := root_ex (l := l.drop s) (by omega)
   rw [bnd hr, bnd (subI_all (by omega)), bnd hq, bnd (catI_ok (by simp only [List.length_singleton]; omega))]
   exact ⟨_, rfl, by simp; omega⟩
  ·have e : IntKind.wrap .i64 ((i : Int) - (s : Int)) = ((i - s : Nat) : Int) := by rw [wrap64 (by omega) (by omega)]; omega
   obtain ⟨r, hr, hrl⟩ := ih (l.drop s) (i - s) k (by omega) (by rw [hdl]; omega) (by omega) (by omega) (by omega)
   obtain ⟨q, hq⟩ := root_ex (l := l.take s) (by omega)
   rw [bif_false (dec_f (by omega)), bnd (subI_all (by omega)), e, bnd hr, bnd (subI_0 (by omega)), bnd hq, bnd (catI_ok (by simp only [List.length_singleton]; omega))]
   exact ⟨_, rfl, by simp; omega⟩
def pathE (l : List H32) (i : Nat) : List H32 := ((proof_Path.f 1000000000000 l (i : Int)).getD ([], false)).1
theorem pathE_eq {l : List H32} {i : Nat} (hi : i < l.length) (h50 : l.length ≤ 50) : proof_Path.f 1000000000000 l (i : Int) = some (pathE l i, true) ∧ (pathE l i).length ≤ 20 := by
 have hd : dpt l.length ≤ 20 := by
  by_cases h : l.length = 1
  ·rw [h]; decide
  ·obtain ⟨_, _, _, _, _, _, h⟩ := split_eq (n := l.length) (by omega) h50
   exact h
 obtain ⟨r, hr, hl⟩ := path_tot 20 l i 1000000000000 (Nat.le_refl _) hd hi h50 (by omega)
 have hr : proof_Path.f 1000000000000 l (i : Int) = some (r, true) := hr
 unfold pathE
 rw [hr]
 exact ⟨rfl, hl⟩
/-! ### records -/
def okR (l : List Rc) : Prop := l.length ≤ 50 ∧ ∀ x ∈ l, okD x
theorem eright_eq {l : List Rc} (h : okR l) : export_right.f 1000000000000 l = some (l.all rightS) := by
 unfold export_right.f slices_ContainsFunc_api_Rec_api_Rec.f slices_IndexFunc_api_Rec_api_Rec.f
 have h50 := h.1
 have hL := loop_all (L := slices_IndexFunc_api_Rec_api_Rec_l1.l 1000000000000 l) (fun (_ : Unit) (i : Nat) => (i : Int)) l (fun _ i x => some (bif rightS x then .inr () else .inl (.inl ((i : Nat) : Int)))) (fun _ => some (.inr ())) () (k := 1000000000000) (by omega)
  (fun k s => by
   show slices_IndexFunc_api_Rec_api_Rec_l1.b 1000000000000 l (slices_IndexFunc_api_Rec_api_Rec_l1.l 1000000000000 l k) _ = _
   unfold slices_IndexFunc_api_Rec_api_Rec_l1.b
   rw [bif_false (dec_f (by simp))])
  (fun k s i x hi hx => by
   show slices_IndexFunc_api_Rec_api_Rec_l1.b 1000000000000 l (slices_IndexFunc_api_Rec_api_Rec_l1.l 1000000000000 l k) _ = _
   unfold slices_IndexFunc_api_Rec_api_Rec_l1.b export_right_1.f
   rw [bif_true (dec_t (by omega)), bnd (getI_lt hx), right_eq (Nat.le_refl _) (h.2 x (List.mem_of_getElem? hx))]
   simp only [Option.bind_some]
   rw [wrap_succ (by omega)]
   cases rightS x <;> rfl)
 have hL : slices_IndexFunc_api_Rec_api_Rec_l1.l 1000000000000 l 1000000000000 0 = _ := hL
 obtain ⟨r1, r2⟩ := run_find (good := rightS) (v := fun i => ((i : Nat) : Int)) (l := l) (s := ()) (i := 0) (f := fun _ i x => some (bif rightS x then .inr () else .inl (.inl ((i : Nat) : Int)))) (fun s i x _ => rfl)
 cases hg : l.all rightS with
 | true => rw [hL, r1 hg]; rfl
 | false =>
  obtain ⟨j, _, _, hj⟩ := r2 hg
  rw [hL, hj]
  simp
theorem hashes_tot {l : List Rc} (h : okR l) (hr : l.all rightS = true) : ∃ hs, export_Hashes.f 1000000000000 l = some hs ∧ hs.length = l.length := by
 unfold export_Hashes.f
 have h50 := h.1
 refine bind_exP (eright_eq h) ?_
 rw [hr, bif_false (by rfl)]
 have key : ∀ (m i : Nat) (out : List H32) (k : Nat), i + m = l.length → m < k → out.length = i → ∃ r, export_Hashes_l1.l 1000000000000 l k (out, (i : Int)) = some r ∧ r.length = l.length := by
  intro m
  induction m with
  | zero =>
   intro i out k hi hk ho
   obtain ⟨k, rfl⟩ : ∃ j, k = j + 1 := ⟨k - 1, by omega⟩
   refine ⟨out, ?_, by omega⟩
   show export_Hashes_l1.b 1000000000000 l (export_Hashes_l1.l 1000000000000 l k) _ = _
   unfold export_Hashes_l1.b
   rw [bif_false (dec_f (by simp only; omega))]
  | succ m ih =>
   intro i out k hi hk ho
   obtain ⟨k, rfl⟩ : ∃ j, k = j + 1 := ⟨k - 1, by omega⟩
   obtain ⟨x, hx⟩ := getI_ex (l := l) (i := i) (by omega)
   have hm : x ∈ l := by rw [getI_nat] at hx; exact List.mem_of_getElem? hx
   have hxr := List.all_eq_true.1 hr x hm
   have hse := seal_eq (K := 1000000000000) (Nat.le_refl _) (h.2 x hm)
   rw [hxr] at hse
   have hsl := sealW_len (K := 1000000000000) hxr
   show ∃ r, export_Hashes_l1.b 1000000000000 l (export_Hashes_l1.l 1000000000000 l k) _ = _ ∧ _
   unfold export_Hashes_l1.b
   rw [bif_true (dec_t (by simp only; omega))]
   refine bind_exP hx ?_
   refine bind_exP (x := sealW 1000000000000 x) hse ?_
   obtain ⟨q, hq⟩ := leaf_tot (b := sealW 1000000000000 x) (by omega)
   refine bind_exP hq ?_
   refine bind_exP (catI_ok (by simp only [List.length_singleton]; omega)) ?_
   rw [wrap_succ (by omega)]
   exact ih (i + 1) _ k (by omega) (by omega) (by simp [ho])
 obtain ⟨r, hr', hl⟩ := key l.length 0 [] 1000000000000 (by omega) (by omega) rfl
 have hr' : export_Hashes_l1.l 1000000000000 l 1000000000000 ([], 0) = some r := hr'
 exact ⟨r, bind_of hr' rfl, hl⟩
/-! ### items -/
def maskE (x : Rc) (i : Nat) (mask : Int) : Rc := (export_masked.f 1000000000000 x (i : Int) mask).getD zRc
theorem maskE_eq {x : Rc} (ho : okD x) (h30 : x.fSteps.length ≤ 30 ∧ x.fData.length ≤ 300) (i : Nat) (mask : Int) : export_masked.f 1000000000000 x (i : Int) mask = some (maskE x i mask) ∧ (maskE x i mask = redS 1000000000000 x ∨ maskE x i mask = x) := by
 have key : ∃ y, export_masked.f 1000000000000 x (i : Int) mask = some y ∧ (y = redS 1000000000000 x ∨ y = x) := by
  unfold export_masked.f
  have e : Int.tmod (i : Int) 32 = ((i % 32 : Nat) : Int) := rfl
  rw [e]
  simp only [chk]
  rw [bif_true (by simp; omega)]
  cases decide (band .u32 (Int.fdiv mask (2 ^ min (Int.toNat ((i % 32 : Nat) : Int)) 32)) 1 = 1) with
  | true =>
   simp only [cond_true]
   refine bind_exP (red_eq (Nat.le_refl _) ho) ?_
   exact ⟨_, rfl, .inl rfl⟩
  | false =>
   simp only [cond_false]
   have h1 : slices_Clone_api_Step_api_Step.f 1000000000000 x.fSteps = some x.fSteps := by
    unfold slices_Clone_api_Step_api_Step.f
    rw [catI_ok (by rw [List.length_nil]; omega)]; rfl
   have h2 : slices_Clone_byte_byte.f 1000000000000 x.fData = some x.fData := by
    unfold slices_Clone_byte_byte.f
    rw [catI_ok (by rw [List.length_nil]; omega)]; rfl
   refine bind_exP h1 ?_
   refine bind_exP h2 ?_
   exact ⟨_, rfl, .inr rfl⟩
 obtain ⟨y, h1, h2⟩ := key
 unfold maskE
 rw [h1]
 exact ⟨rfl, h2⟩
theorem maskE_right {x : Rc} (ho : okD x) (h30 : x.fSteps.length ≤ 30 ∧ x.fData.length ≤ 300) (hr : rightS x = true) (i : Nat) (mask : Int) : rightS (maskE x i mask) = true ∧ okD (maskE x i mask) := by
 rcases (maskE_eq ho h30 i mask).2 with h | h
 ·rw [h]
  exact ⟨red_right hr, red_okD ho⟩
 ·rw [h]
  exact ⟨hr, ho⟩
end Go.Proofs.YtjgaokcplofimaaDoor
