/-
 The plain law of ExportPaths.
-/
import Derived.Test.YtjgaokcplofimaaDoorPureEv
namespace Go.Proofs.YtjgaokcplofimaaDoor
open Go Go.Sep
/-! ### roots and paths -/
theorem root_uni : ∀ (n : Nat) (l : List H32), l.length ≤ n → l.length ≤ 50 → ∃ r, ∀ k, n < k → tree_Root.r 1000000000000 k l = some r := by
 intro n
 induction n with
 | zero =>
  intro l h _
  obtain ⟨r, hr, _⟩ := sum_tot (K := 1000000000000) (Nat.le_refl _) (x := []) (by simp) (by simp)
  refine ⟨r, fun k hk => ?_⟩
  obtain ⟨k, rfl⟩ : ∃ j, k = j + 1 := ⟨k - 1, by omega⟩
  show tree_Root.b 1000000000000 (tree_Root.r 1000000000000 k) l = _
  unfold tree_Root.b
  rw [bif_true (dec_t (by omega))]
  exact bind_of hr rfl
 | succ n ih =>
  intro l h h50
  by_cases h0 : l.length = 0
  ·obtain ⟨r, hr, _⟩ := sum_tot (K := 1000000000000) (Nat.le_refl _) (x := []) (by simp) (by simp)
   refine ⟨r, fun k hk => ?_⟩
   obtain ⟨k, rfl⟩ : ∃ j, k = j + 1 := ⟨k - 1, by omega⟩
   show tree_Root.b 1000000000000 (tree_Root.r 1000000000000 k) l = _
   unfold tree_Root.b
   rw [bif_true (dec_t (by omega))]
   exact bind_of hr rfl
  by_cases h1 : l.length = 1
  ·obtain ⟨x, hx⟩ := getI_ex (l := l) (i := 0) (by omega)
   refine ⟨x, fun k hk => ?_⟩
   obtain ⟨k, rfl⟩ : ∃ j, k = j + 1 := ⟨k - 1, by omega⟩
   show tree_Root.b 1000000000000 (tree_Root.r 1000000000000 k) l = _
   unfold tree_Root.b
   rw [bif_false (dec_f (by omega)), bif_true (dec_t (by omega))]
   exact bind_of hx rfl
  obtain ⟨s, hs, s1, s2, _⟩ := split_eq (n := l.length) (by omega) h50
  obtain ⟨a, ha⟩ := ih (l.take s) (by simp; omega) (by simp; omega)
  obtain ⟨b, hb⟩ := ih (l.drop s) (by simp; omega) (by simp; omega)
  obtain ⟨r, hr⟩ := node_tot a b
  refine ⟨r, fun k hk => ?_⟩
  obtain ⟨k, rfl⟩ : ∃ j, k = j + 1 := ⟨k - 1, by omega⟩
  show tree_Root.b 1000000000000 (tree_Root.r 1000000000000 k) l = _
  unfold tree_Root.b
  rw [bif_false (dec_f (by omega)), bif_false (dec_f (by omega)), bnd hs, bnd (subI_0 (by omega)), bnd (subI_all (by omega)), bnd (ha k (by omega)), bnd (hb k (by omega)), bnd hr]
def rootE (l : List H32) : H32 := (tree_Root.f 1000000000000 l).getD zH
theorem rootE_r {l : List H32} (h : l.length ≤ 50) {k : Nat} (hk : 50 < k) : tree_Root.r 1000000000000 k l = some (rootE l) := by
 obtain ⟨r, hr⟩ := root_uni 50 l h h
 have h2 : tree_Root.f 1000000000000 l = some r := hr _ (by omega)
 unfold rootE
 rw [h2, hr k hk]; rfl
theorem rootE_eq {l : List H32} (h : l.length ≤ 50) : tree_Root.f 1000000000000 l = some (rootE l) := rootE_r h (by omega)
theorem rootE_one {x : H32} : rootE [x] = x := by
 have h := rootE_r (l := [x]) (by simp) (k := 51) (by omega)
 have h2 : tree_Root.b 1000000000000 (tree_Root.r 1000000000000 50) [x] = some (rootE [x]) := h
 unfold tree_Root.b at h2
 rw [bif_false (dec_f (by simp)), bif_true (dec_t (by simp)), bnd (show getI [x] (0 : Int) = some x from rfl)] at h2
 exact (Option.some.inj h2).symm
theorem rootE_node {l : List H32} {s : Nat} (h2 : 2 ≤ l.length) (h : l.length ≤ 50) (hs : tree_Split.f 1000000000000 (l.length : Int) = some (s : Int)) (s1 : 0 < s) (s2 : s < l.length) : tree_Node.f 1000000000000 (rootE (l.take s)) (rootE (l.drop s)) = some (rootE l) := by
 have hr := rootE_r h (k := 52) (by omega)
 have hr : tree_Root.b 1000000000000 (tree_Root.r 1000000000000 51) l = some (rootE l) := hr
 unfold tree_Root.b at hr
 rw [bif_false (dec_f (by omega)), bif_false (dec_f (by omega)), bnd hs, bnd (subI_0 (by omega)), bnd (subI_all (by omega)), bnd (rootE_r (by simp; omega) (by omega)), bnd (rootE_r (by simp; omega) (by omega))] at hr
 obtain ⟨r, hn⟩ := node_tot (rootE (l.take s)) (rootE (l.drop s))
 rw [bnd hn] at hr
 rw [hn]; exact hr
theorem comes_key : ∀ (d : Nat) (l : List H32) (i : Nat) (x : H32), d ≤ 20 → dpt l.length ≤ d → l[i]? = some x → l.length ≤ 50 →
  ∃ r : List H32, r.length ≤ d ∧ (∀ k, d < k → proof_Path.r 1000000000000 k l (i : Int) = some (r, true)) ∧ ∀ W k, r <+: W → d < k → proof_Comes_1_1.r 1000000000000 k (i : Int) (l.length : Int) x (r.length : Int) W = some (rootE l, 0) := by
 have one : ∀ (d : Nat) (l : List H32) (i : Nat) (x : H32), l[i]? = some x → l.length = 1 →
   ∃ r : List H32, r.length ≤ d ∧ (∀ k, d < k → proof_Path.r 1000000000000 k l (i : Int) = some (r, true)) ∧ ∀ W k, r <+: W → d < k → proof_Comes_1_1.r 1000000000000 k (i : Int) (l.length : Int) x (r.length : Int) W = some (rootE l, 0) := by
  intro d l i x hx h1
  have hi := (List.getElem?_eq_some_iff.1 hx).1
  refine ⟨[], by simp, fun k hk => ?_, fun W k _ hk => ?_⟩
  ·obtain ⟨k, rfl⟩ : ∃ j, k = j + 1 := ⟨k - 1, by omega⟩
   show proof_Path.b 1000000000000 (proof_Path.r 1000000000000 k) l (i : Int) = _
   unfold proof_Path.b
   simp only [jn]
   rw [bif_false (dec_f (show ¬ (i : Int) < 0 by omega)), dec_f (show ¬ (l.length : Int) ≤ (i : Int) by omega)]
   simp only [cond_false]
   rw [bif_true (dec_t (by omega))]
  ·obtain ⟨k, rfl⟩ : ∃ j, k = j + 1 := ⟨k - 1, by omega⟩
   show proof_Comes_1_1.b 1000000000000 (proof_Comes_1_1.r 1000000000000 k) _ _ _ _ W = _
   unfold proof_Comes_1_1.b
   rw [bif_true (dec_t (by omega))]
   obtain ⟨y, rfl⟩ := List.length_eq_one_iff.1 h1
   have : i = 0 := by simp at hi; omega
   subst this
   simp only [List.getElem?_cons_zero, Option.some.injEq] at hx
   rw [rootE_one, hx]; rfl
 intro d
 induction d with
 | zero =>
  intro l i x hd20 hd hx h50
  have hi := (List.getElem?_eq_some_iff.1 hx).1
  by_cases h1 : l.length = 1
  ·exact one 0 l i x hx h1
  ·obtain ⟨s, _, _, _, s3, _⟩ := split_eq (n := l.length) (by omega) h50
   omega
 | succ d ih =>
  intro l i x hd20 hd hx h50
  have hi := (List.getElem?_eq_some_iff.1 hx).1
  by_cases h1 : l.length = 1
  ·exact one (d + 1) l i x hx h1
  obtain ⟨s, hs, s1, s2, s3, s4, _⟩ := split_eq (n := l.length) (by omega) h50
  have ht : (l.take s).length = s := by simp; omega
  have hdl : (l.drop s).length = l.length - s := by simp
  have hnode := rootE_node (by omega) h50 hs s1 s2
  by_cases hc : i < s
  ·obtain ⟨r, hrl, hp, hcm⟩ := ih (l.take s) i x (by omega) (by rw [ht]; omega) (by rw [List.getElem?_take, if_pos hc]; exact hx) (by omega)
   refine ⟨r ++ [rootE (l.drop s)], by simp; omega, fun k hk => ?_, fun W k hW hk => ?_⟩
   ·obtain ⟨k, rfl⟩ : ∃ j, k = j + 1 := ⟨k - 1, by omega⟩
    show proof_Path.b 1000000000000 (proof_Path.r 1000000000000 k) l (i : Int) = _
    unfold proof_Path.b
    simp only [jn]
    rw [bif_false (dec_f (show ¬ (i : Int) < 0 by omega)), dec_f (show ¬ (l.length : Int) ≤ (i : Int) by omega)]
    simp only [cond_false]
    rw [bif_false (dec_f (by omega)), bnd hs, bif_true (dec_t (by omega)), bnd (subI_0 (by omega)), bnd (hp k (by omega)), bnd (subI_all (by omega)), bnd (rootE_eq (by omega)), bnd (catI_ok (by simp only [List.length_singleton]; omega))]
   ·obtain ⟨k, rfl⟩ : ∃ j, k = j + 1 := ⟨k - 1, by omega⟩
    obtain ⟨T, rfl⟩ := hW
    show proof_Comes_1_1.b 1000000000000 (proof_Comes_1_1.r 1000000000000 k) _ _ _ _ _ = _
    unfold proof_Comes_1_1.b
    rw [bif_false (dec_f (by omega))]
    refine Eq.trans (jn_val ((s : Int), rootE (l.drop s), (r.length : Int)) (fun j => ?_)) ?_
    ·try dsimp only
     rw [bnd hs]
     have ht2 : proof_taken_2.f 1000000000000 ((r ++ [rootE (l.drop s)]).length : Int) (r ++ [rootE (l.drop s)] ++ T) = some (rootE (l.drop s), (r.length : Int)) := by
      unfold proof_taken_2.f
      have e : IntKind.wrap .i64 (((r ++ [rootE (l.drop s)]).length : Int) - 1) = (r.length : Int) := by
       rw [wrap64 (by simp only [List.length_append, List.length_singleton]; omega) (by simp only [List.length_append, List.length_singleton]; omega)]; simp
      rw [bif_false (dec_f (by simp; omega)), e, bnd (getI_lt (x := rootE (l.drop s)) (by simp))]
     rw [bnd ht2]
    ·try dsimp only
     rw [bif_true (dec_t (by omega))]
     have hcc := hcm (r ++ [rootE (l.drop s)] ++ T) k ⟨[rootE (l.drop s)] ++ T, by simp⟩ (by omega)
     rw [ht] at hcc
     rw [bnd hcc, bnd hnode]
  ·have e : IntKind.wrap .i64 ((i : Int) - (s : Int)) = ((i - s : Nat) : Int) := by rw [wrap64 (by omega) (by omega)]; omega
   have e2 : IntKind.wrap .i64 ((l.length : Int) - (s : Int)) = ((l.length - s : Nat) : Int) := by rw [wrap64 (by omega) (by omega)]; omega
   obtain ⟨r, hrl, hp, hcm⟩ := ih (l.drop s) (i - s) x (by omega) (by rw [hdl]; omega) (by rw [List.getElem?_drop, show s + (i - s) = i by omega]; exact hx) (by omega)
   refine ⟨r ++ [rootE (l.take s)], by simp; omega, fun k hk => ?_, fun W k hW hk => ?_⟩
   ·obtain ⟨k, rfl⟩ : ∃ j, k = j + 1 := ⟨k - 1, by omega⟩
    show proof_Path.b 1000000000000 (proof_Path.r 1000000000000 k) l (i : Int) = _
    unfold proof_Path.b
    simp only [jn]
    rw [bif_false (dec_f (show ¬ (i : Int) < 0 by omega)), dec_f (show ¬ (l.length : Int) ≤ (i : Int) by omega)]
    simp only [cond_false]
    rw [bif_false (dec_f (by omega)), bnd hs, bif_false (dec_f (by omega)), bnd (subI_all (by omega)), e, bnd (hp k (by omega)), bnd (subI_0 (by omega)), bnd (rootE_eq (by omega)), bnd (catI_ok (by simp only [List.length_singleton]; omega))]
   ·obtain ⟨k, rfl⟩ : ∃ j, k = j + 1 := ⟨k - 1, by omega⟩
    obtain ⟨T, rfl⟩ := hW
    show proof_Comes_1_1.b 1000000000000 (proof_Comes_1_1.r 1000000000000 k) _ _ _ _ _ = _
    unfold proof_Comes_1_1.b
    rw [bif_false (dec_f (by omega))]
    refine Eq.trans (jn_val ((s : Int), rootE (l.take s), (r.length : Int)) (fun j => ?_)) ?_
    ·try dsimp only
     rw [bnd hs]
     have ht2 : proof_taken_2.f 1000000000000 ((r ++ [rootE (l.take s)]).length : Int) (r ++ [rootE (l.take s)] ++ T) = some (rootE (l.take s), (r.length : Int)) := by
      unfold proof_taken_2.f
      have e : IntKind.wrap .i64 (((r ++ [rootE (l.take s)]).length : Int) - 1) = (r.length : Int) := by
       rw [wrap64 (by simp only [List.length_append, List.length_singleton]; omega) (by simp only [List.length_append, List.length_singleton]; omega)]; simp
      rw [bif_false (dec_f (by simp; omega)), e, bnd (getI_lt (x := rootE (l.take s)) (by simp))]
     rw [bnd ht2]
    ·try dsimp only
     rw [bif_false (dec_f (by omega))]
     have hcc := hcm (r ++ [rootE (l.take s)] ++ T) k ⟨[rootE (l.take s)] ++ T, by simp⟩ (by omega)
     rw [hdl] at hcc
     rw [e, e2, bnd hcc, bnd hnode]
theorem equal_same (a : H32) : mac_Equal.f 1000000000000 a a = some true := by
 have key : ∀ (m i k : Nat), i + m = 32 → m < k → mac_Equal_l1.l 1000000000000 a a k ((i : Int), (0 : Int)) = some 0 := by
  intro m
  induction m with
  | zero =>
   intro i k hi hk
   obtain ⟨k, rfl⟩ : ∃ j, k = j + 1 := ⟨k - 1, by omega⟩
   show mac_Equal_l1.b 1000000000000 a a (mac_Equal_l1.l 1000000000000 a a k) _ = _
   unfold mac_Equal_l1.b
   rw [bif_false (dec_f (by simp only; omega))]
  | succ m ih =>
   intro i k hi hk
   obtain ⟨k, rfl⟩ : ∃ j, k = j + 1 := ⟨k - 1, by omega⟩
   show mac_Equal_l1.b 1000000000000 a a (mac_Equal_l1.l 1000000000000 a a k) _ = _
   unfold mac_Equal_l1.b mac_Equal_1.f
   have e : ∀ v : Int, bor .u8 0 (bxor .u8 v v) = 0 := fun v => by unfold bxor; rw [BitVec.xor_self]; rfl
   rw [bif_true (dec_t (by simp only; omega))]
   simp only [chk]
   rw [bif_true (inA_lit (by omega)), bif_true (inA_lit (by omega)), e]
   show mac_Equal_l1.l 1000000000000 a a k (IntKind.wrap .i64 ((i : Int) + 1), 0) = _
   rw [wrap_succ (by omega)]
   exact ih (i + 1) k (by omega) (by omega)
 unfold mac_Equal.f
 have h : mac_Equal_l1.l 1000000000000 a a 1000000000000 (0, 0) = some 0 := key 32 0 1000000000000 (by omega) (by omega)
 rw [bnd h]; rfl
theorem in_path {l : List H32} {i : Nat} {x : H32} (hx : l[i]? = some x) (h50 : l.length ≤ 50) : proof_In.f 1000000000000 x (i : Int) (l.length : Int) (pathE l i) (rootE l) = some true := by
 have hi := (List.getElem?_eq_some_iff.1 hx).1
 have hd : dpt l.length ≤ 20 := by
  by_cases h : l.length = 1
  ·rw [h]; decide
  ·obtain ⟨_, _, _, _, _, _, h⟩ := split_eq (n := l.length) (by omega) h50
   exact h
 obtain ⟨r, hrl, hp, hc⟩ := comes_key 20 l i x (Nat.le_refl _) hd hx h50
 have e := (pathE_eq hi h50).1
 have hp : proof_Path.f 1000000000000 l (i : Int) = some (r, true) := hp 1000000000000 (by omega)
 rw [hp] at e
 have e : r = pathE l i := by simpa using e
 subst e
 have hc : proof_Comes_1_1.f 1000000000000 (i : Int) (l.length : Int) x ((pathE l i).length : Int) (pathE l i) = some (rootE l, 0) := hc _ 1000000000000 (List.prefix_refl _) (by omega)
 unfold proof_In.f proof_Comes.f
 refine bind_of (x := (rootE l, true)) ?_ ?_
 ·refine Eq.trans (jn_val false (fun j => ?_)) ?_
  ·try dsimp only
   rw [bif_false (dec_f (by omega)), bif_false (dec_f (by omega)), dec_f (by omega)]
  ·try dsimp only
   rw [bif_false (by rfl)]
   unfold proof_taken.f proof_Comes_1.f
   rw [hc]
   rfl
 ·rw [bif_true (by rfl), bnd (equal_same _)]
/-! ### hashes -/
def leafP (x : Rc) : H32 := (tree_Leaf.f 1000000000000 (sealW 1000000000000 x)).getD zH
theorem leafP_eq {x : Rc} (h : rightS x = true) : tree_Leaf.f 1000000000000 (sealW 1000000000000 x) = some (leafP x) := by
 have := sealW_len (K := 1000000000000) h
 obtain ⟨r, hr⟩ := leaf_tot (b := sealW 1000000000000 x) (by omega)
 unfold leafP
 rw [hr]; rfl
theorem hashesP_key {l : List Rc} (h : okR l) (hr : l.all rightS = true) : ∀ (m i k : Nat), i + m = l.length → m < k → export_Hashes_l1.l 1000000000000 l k ((l.take i).map leafP, (i : Int)) = some (l.map leafP) := by
 have h50 := h.1
 intro m
 induction m with
 | zero =>
  intro i k hi hk
  obtain ⟨k, rfl⟩ : ∃ j, k = j + 1 := ⟨k - 1, by omega⟩
  show export_Hashes_l1.b 1000000000000 l (export_Hashes_l1.l 1000000000000 l k) _ = _
  unfold export_Hashes_l1.b
  rw [bif_false (dec_f (by simp only; omega)), List.take_of_length_le (by omega)]
 | succ m ih =>
  intro i k hi hk
  obtain ⟨k, rfl⟩ : ∃ j, k = j + 1 := ⟨k - 1, by omega⟩
  obtain ⟨x, hx⟩ := getI_ex (l := l) (i := i) (by omega)
  have hx' := hx
  rw [getI_nat] at hx'
  have hm := List.mem_of_getElem? hx'
  have hxr := List.all_eq_true.1 hr x hm
  have hse := seal_eq (K := 1000000000000) (Nat.le_refl _) (h.2 x hm)
  rw [hxr] at hse
  have hse : rec_Sealed.f 1000000000000 x = some (sealW 1000000000000 x) := hse
  show export_Hashes_l1.b 1000000000000 l (export_Hashes_l1.l 1000000000000 l k) _ = _
  unfold export_Hashes_l1.b
  rw [bif_true (dec_t (by simp only; omega)), bnd hx, bnd hse, bnd (leafP_eq hxr), bnd (catI_ok (by simp only [List.length_singleton, List.length_map, List.length_take]; omega))]
  try dsimp only
  rw [wrap_succ (by omega), ← ih (i + 1) k (by omega) (by omega), List.take_add_one, hx']
  simp
theorem hashesP_eq {l : List Rc} (h : okR l) (hr : l.all rightS = true) : export_Hashes.f 1000000000000 l = some (l.map leafP) := by
 unfold export_Hashes.f
 have h50 := h.1
 rw [bnd (eright_eq h), hr, bif_false (by rfl)]
 have hL := hashesP_key h hr l.length 0 1000000000000 (by omega) (by omega)
 rw [List.take_zero, List.map_nil] at hL
 have hL : export_Hashes_l1.l 1000000000000 l 1000000000000 ([], 0) = some (l.map leafP) := hL
 rw [bnd hL]
theorem law_ExportPaths {K : Nat} (hK : K = 1000000000000) (l : List Rc) (p : T_api_Point) (mask a b : Int) (hd : ∀ x ∈ l, isB x.fData) : inspeximuslaw18_ExportPaths.f K l p mask a b = some true := by
 subst hK
 have hK : (1000000000000 : Nat) ≤ 1000000000000 := Nat.le_refl _
 unfold inspeximuslaw18_ExportPaths.f
 rw [bnd alive18, bif_false (by rfl), bnd (few_eq l p)]
 cases hf : fewE l p with
 | false => rfl
 | true =>
 have h := few_ok hf hd
 have h50 := h.len
 rw [bif_false (by rfl), bnd (range_eq h mask a b)]
 unfold madeE
 cases hg : gd l p && rightB (xbunE l p mask false (placesE l p (selR a b))) with
 | false => rfl
 | true =>
 simp only [cond_true]
 rw [bif_false (by simp)]
 have hg1 : gd l p = true := by cases hh : gd l p with | true => rfl | false => rw [hh] at hg; cases hg
 obtain ⟨hr, n, hn, hn2⟩ := gd_iff hg1
 have hh := hashE_eq h hg1 hn
 have hrt : (l.take n).all rightS = true := List.all_eq_true.2 fun x hx => List.all_eq_true.1 hr x (List.mem_of_mem_take hx)
 have hhs : hashE l p = (l.take n).map leafP := by
  have h2 := hashesP_eq (l := l.take n) ⟨by simp; omega, fun x hx => h.d x (List.mem_of_mem_take hx)⟩ hrt
  rw [hh.1] at h2
  exact Option.some.inj h2
 rw [bnd (show subI l 0 p.fSize = some (l.take n) by rw [hn]; exact subI_0 hn2), bnd hh.1, bnd (rootE_eq (by omega))]
 have hlen : (xbunE l p mask false (placesE l p (selR a b))).fItems.length = (placesE l p (selR a b)).length := List.length_map ..
 have hpl := places_len (l := l) (p := p) (sel := selR a b) hg1
 have hL := loop_thru (L := inspeximuslaw18_ExportPaths_l1.l 1000000000000 l p (xbunE l p mask false (placesE l p (selR a b)), true) (rootE (hashE l p))) (n := (placesE l p (selR a b)).length) (r := Sum.inr ())
  (fun k => by
   show inspeximuslaw18_ExportPaths_l1.b 1000000000000 _ _ _ _ (inspeximuslaw18_ExportPaths_l1.l 1000000000000 _ _ _ _ k) _ = _
   unfold inspeximuslaw18_ExportPaths_l1.b
   rw [bif_false (dec_f (by simp only [hlen]; omega))])
  (fun k i hi => by
   show inspeximuslaw18_ExportPaths_l1.b 1000000000000 _ _ _ _ (inspeximuslaw18_ExportPaths_l1.l 1000000000000 _ _ _ _ k) _ = _
   unfold inspeximuslaw18_ExportPaths_l1.b
   obtain ⟨j, hj⟩ : ∃ j, (placesE l p (selR a b))[i]? = some j := ⟨_, List.getElem?_eq_getElem hi⟩
   have hjn := placesE_lt hg1 j (List.mem_of_getElem? hj)
   obtain ⟨x, hx⟩ := getI_ex (l := l) (i := j) (by omega)
   have hx' := hx
   rw [getI_nat] at hx'
   have hm := List.mem_of_getElem? hx'
   have hxr := List.all_eq_true.1 hr x hm
   have hq := maskE_right (h.d x hm) (h.small x hm) hxr j mask
   have hmk := (maskE_eq (h.d x hm) (h.small x hm) j mask).2
   have hit : (xbunE l p mask false (placesE l p (selR a b))).fItems[i]? = some (gE l mask false (hashE l p) j) := by
    show ((placesE l p (selR a b)).map _)[i]? = _
    rw [List.getElem?_map, hj]; rfl
   have e1 : (gE l mask false (hashE l p) j).fRec = maskE x j mask := by
    show maskE (l[j]?.getD zRc) j mask = _
    rw [hx']; rfl
   have hse : rec_Sealed.f 1000000000000 (maskE x j mask) = some (sealW 1000000000000 x) := by
    rw [seal_eq hK hq.2, hq.1]
    simp only [cond_true]
    rcases hmk with hm1 | hm1
    ·rw [hm1, red_sealW]
    ·rw [hm1]
   have hred : redS 1000000000000 (maskE x j mask) = redS 1000000000000 x := by
    rcases hmk with hm1 | hm1
    ·rw [hm1, red_red]
    ·rw [hm1]
   have hleaf : (hashE l p)[j]? = some (leafP x) := by
    rw [hhs, List.getElem?_map, List.getElem?_take, if_pos (by omega), hx']; rfl
   have hin := in_path hleaf (by omega)
   rw [hh.2, ← hn] at hin
   rw [bif_true (dec_t (by simp only [hlen]; omega)), bnd (getI_lt hit)]
   refine Eq.trans (jn_val false (fun j1 => ?_)) ?_
   ·try dsimp only
    rw [e1, bnd hse, bnd (leafP_eq hxr)]
    rw [bnd (show proof_In.f 1000000000000 (leafP x) (gE l mask false (hashE l p) j).fAt p.fSize (gE l mask false (hashE l p) j).fPath (rootE (hashE l p)) = some true from hin), bif_false (by rfl), bnd (show getI l (gE l mask false (hashE l p) j).fAt = some x from hx), bnd (red_eq hK hq.2), bnd (red_eq hK (h.d x hm)), bnd (rec_same hK (red_okD hq.2) (red_okD (h.d x hm))), hred]
    simp
   ·try dsimp only
    rw [bif_false (by rfl), wrap_succ (by omega)])
  (placesE l p (selR a b)).length 0 1000000000000 (by omega) (by omega)
 have hL : inspeximuslaw18_ExportPaths_l1.l 1000000000000 l p (xbunE l p mask false (placesE l p (selR a b)), true) (rootE (hashE l p)) 1000000000000 0 = some (.inr ()) := hL
 rw [bnd hL]
end Go.Proofs.YtjgaokcplofimaaDoor
