/-
 Plain: readers as functions; what it means that a reader reads what is put; sequences and lists of readers.
-/
import Derived.Test.YtlcnliiampfigaaDoorPureS
namespace Go.Proofs.YtlcnliiampfigaaDoor
open Go Go.Sep
def Good (r : Rd) : Prop := isB r.fB ∧ r.fB.length < 1000000000
theorem Good.nil {e : Int} : Good ⟨[], e⟩ := ⟨isB_nil, by simp⟩
theorem Good.drop {b : List Int} {e e' : Int} (h : Good ⟨b, e⟩) (n : Nat) : Good ⟨b.drop n, e'⟩ :=
 ⟨fun x hx => h.1 x (List.mem_of_mem_drop hx), by have := h.2; simp at this ⊢; omega⟩
theorem Good.tail {a b : List Int} {e e' : Int} (h : Good ⟨a ++ b, e⟩) : Good ⟨b, e'⟩ :=
 ⟨(isB_append.1 h.1).2, by have := h.2; simp at this ⊢; omega⟩
structure RdSpec {α : Type} (p : Rd → α × Rd) (W : α → List Int) (Ok : α → Prop) : Prop where
 good : ∀ r, Good r → Good (p r).2
 ok : ∀ a rest, Ok a → Good ⟨W a ++ rest, 0⟩ → p ⟨W a ++ rest, 0⟩ = (a, ⟨rest, 0⟩)
 back : ∀ r, Good r → (p r).2.fBad = 0 → r.fBad = 0 ∧ r.fB = W (p r).1 ++ (p r).2.fB ∧ Ok (p r).1
def failR (e : Int) (r : Rd) : Rd := if r.fBad = 0 then ⟨[], e⟩ else r
theorem failR_eq {K : Nat} {e : Int} (he : e ≠ 0) (r : Rd) : wire_Reader_Fail.f K e r = some (failR e r) := by
 obtain ⟨b, x⟩ := r
 by_cases h : x = 0
 ·subst h; rw [fail_eq he]; rfl
 ·rw [fail_bad h]; simp [failR, h]
theorem failR_good {e : Int} {r : Rd} (h : Good r) : Good (failR e r) := by
 unfold failR; split
 ·exact Good.nil
 ·exact h
theorem failR_bad {e : Int} (he : e ≠ 0) (r : Rd) : (failR e r).fBad ≠ 0 := by
 unfold failR; split
 ·exact he
 ·assumption
/-! ### numbers -/
def numR (r : Rd) : Int × Rd :=
 if r.fBad = 0 then
  (if (pN 0 0 r.fB).2.2 = 0 then ((pN 0 0 r.fB).1, ⟨r.fB.drop (pN 0 0 r.fB).2.1.toNat, 0⟩) else (0, ⟨[], (pN 0 0 r.fB).2.2⟩))
 else (0, r)
theorem num_split {b : List Int} (hb : isB b) (h : (pN 0 0 b).2.2 = 0) : ∃ (n : Nat) (rest : List Int), n < 2147483648 ∧ b = numS n ++ rest ∧ pN 0 0 b = ((n : Int), ((numS n).length : Int), 0) := by
 obtain ⟨n, k, e, he⟩ : ∃ n k e, pN 0 0 b = (n, k, e) := ⟨_, _, _, rfl⟩
 rw [he] at h
 simp only at h
 subst h
 obtain ⟨n', j, h1, h2, h3, h4, h5, h6, _⟩ := pN_back b 0 0 n k hb (by rw [hiB_zero]; rfl) he
 rw [hiB_zero, List.nil_append] at h6
 refine ⟨n', b.drop j, h3, ?_, ?_⟩
 ·rw [← h6, List.take_append_drop]
 ·have hl : (numS n').length = j := by rw [← h6]; simp; omega
  rw [he, h1, h2, hl]; simp
theorem numR_eq {K : Nat} (hK : 1000000000000 ≤ K) {r : Rd} (hr : Good r) : wire_Reader_Num.f K r = some (numR r) := by
 obtain ⟨b, x⟩ := r
 have hl : b.length < 1000000000000 := by have := hr.2; simp at this; omega
 by_cases h : x = 0
 ·subst h
  by_cases h2 : (pN 0 0 b).2.2 = 0
  ·obtain ⟨n, rest, h3, h4, h5⟩ := num_split hr.1 h2
   simp only at h4 h5
   rw [rnum_ok hK hr.1 hl h3 h4]
   simp only [numR, if_true, h5]
   rw [h4]; simp
  ·have : pN 0 0 b = (0, 0, (pN 0 0 b).2.2) := by
    rcases pN_err b 0 0 with e | e | e
    ·exact absurd e h2
    ·rw [e]
    ·rw [e]
   rw [rnum_fail hK hr.1 hl this h2]
   simp [numR, h2]
 ·rw [rnum_bad h]; simp [numR, h]
theorem numR_spec : RdSpec numR (fun n => numS n.toNat) (fun n => 0 ≤ n ∧ n < 2147483648) := by
 refine ⟨fun r hr => ?_, fun a rest ha hg => ?_, fun r hr hb => ?_⟩
 ·unfold numR; split
  ·split
   ·exact Good.drop (b := r.fB) (e := r.fBad) hr _
   ·exact Good.nil
  ·exact hr
 ·have hp := pN_num (n := a.toNat) (by omega) rest
  simp only [numR, hp, if_true]
  simp
  omega
 ·unfold numR at hb ⊢
  by_cases h : r.fBad = 0
  ·by_cases h2 : (pN 0 0 r.fB).2.2 = 0
   ·obtain ⟨n, rest, h3, h4, h5⟩ := num_split hr.1 h2
    simp only [h, h2, if_true]
    rw [h5]
    simp only [Int.toNat_natCast]
    refine ⟨trivial, ?_, by omega, by omega⟩
    rw [h4]; simp
   ·simp [h, h2] at hb
  ·simp [h] at hb
/-! ### flags -/
def flagR (r : Rd) : Bool × Rd :=
 if r.fBad = 0 then (match r.fB with | [] => (false, ⟨[], 3⟩) | c :: l => if 1 < c then (false, ⟨[], 2⟩) else (decide (c = 1), ⟨l, 0⟩)) else (false, r)
theorem flagR_eq {K : Nat} {r : Rd} (hr : Good r) : wire_Reader_Flag.f K r = some (flagR r) := by
 obtain ⟨b, x⟩ := r
 by_cases h : x = 0
 ·subst h
  cases b with
  | nil =>
   unfold wire_Reader_Flag.f wire_take_bool.f wire_Reader_Bad.f wire_Reader_Flag_1.f
   simp only [Option.bind_some]
   rw [bif_false (by simp), bif_true (by simp)]
   simp only [Option.bind_some]
   rw [bif_true (by simp), fail_eq (by omega)]
   simp [flagR]
  | cons c l =>
   have hc := hr.1 c (by simp)
   by_cases h1 : 1 < c
   ·unfold wire_Reader_Flag.f wire_take_bool.f wire_Reader_Bad.f wire_Reader_Flag_1.f
    simp only [Option.bind_some]
    rw [bif_false (by simp), bif_false (dec_f (by simp; omega)), getI_0]
    simp only [List.getElem?_cons_zero, Option.bind_some]
    rw [bif_true (dec_t h1)]
    simp only [Option.bind_some]
    rw [bif_true (by simp), fail_eq (by omega)]
    simp [flagR, h1]
   ·have : c = flagI (decide (c = 1)) := by
     by_cases h2 : c = 1
     ·simp [h2, flagI]
     ·have : c = 0 := by omega
      simp [this, flagI]
    rw [this, rflag_ok]
    simp only [flagR, if_true]
    rw [← this]
    simp [h1]
 ·rw [rflag_bad h]; simp [flagR, h]
theorem flagR_spec : RdSpec flagR (fun b => [flagI b]) (fun _ => True) := by
 refine ⟨fun r hr => ?_, fun a rest _ hg => ?_, fun r hr hb => ?_⟩
 ·obtain ⟨b, x⟩ := r
  by_cases h : x = 0
  ·subst h
   cases b with
   | nil => simp only [flagR, if_true]; exact Good.nil
   | cons c l =>
    simp only [flagR, if_true]
    split
    ·exact Good.nil
    ·exact Good.tail (a := [c]) (e := 0) hr
  ·simp only [flagR, h, if_false]; exact hr
 ·cases a <;> simp [flagR, flagI]
 ·obtain ⟨b, x⟩ := r
  by_cases h : x = 0
  ·subst h
   cases b with
   | nil => simp [flagR] at hb
   | cons c l =>
    have hc := hr.1 c (by simp)
    by_cases h1 : 1 < c
    ·simp [flagR, h1] at hb
    ·simp only [flagR, if_true, h1, if_false]
     refine ⟨trivial, ?_, trivial⟩
     by_cases h2 : c = 1
     ·simp [h2, flagI]
     ·have : c = 0 := by omega
      simp [this, flagI]
  ·simp [flagR, h] at hb
/-! ### hashes -/
theorem vlist_vofL {n : Nat} {l : List Int} (h : l.length = n) : vlist (vofL n l) = l := by
 apply List.ext_getElem?
 intro i
 by_cases hi : i < n
 ·simp [vlist, vofL, hi, h, vget]
 ·simp [vlist, vofL, hi, h]
def hashR (r : Rd) : Vector Int 32 × Rd :=
 if r.fBad = 0 then (if r.fB.length < 32 then (Vector.replicate 32 0, ⟨[], 3⟩) else (vofL 32 (r.fB.take 32), ⟨r.fB.drop 32, 0⟩)) else (Vector.replicate 32 0, r)
theorem hashR_eq {K : Nat} {r : Rd} (hr : Good r) : wire_Reader_Hash.f K r = some (hashR r) := by
 obtain ⟨b, x⟩ := r
 by_cases h : x = 0
 ·subst h
  by_cases hl : b.length < 32
  ·unfold wire_Reader_Hash.f wire_take_api_Hash.f wire_Reader_Bad.f wire_Reader_Hash_1.f
   simp only [Option.bind_some]
   rw [bif_false (by simp), bif_true (dec_t (by omega))]
   simp only [Option.bind_some]
   rw [bif_true (by simp), fail_eq (by omega)]
   simp [hashR, hl]
  ·have e : b = vlist (vofL 32 (b.take 32)) ++ b.drop 32 := by
    rw [vlist_vofL (by simp; omega), List.take_append_drop]
   have hb2 := hr.2
   simp only at hb2
   have := rhash_ok (K := K) (h := vofL 32 (b.take 32)) (rest := b.drop 32) (by simp; omega)
   rw [← e] at this
   rw [this]
   simp [hashR, hl]
 ·rw [rhash_bad h]; simp [hashR, h]
theorem hashR_spec : RdSpec hashR (fun h => vlist h) (fun h => isB (vlist h)) := by
 refine ⟨fun r hr => ?_, fun a rest _ hg => ?_, fun r hr hb => ?_⟩
 ·unfold hashR; split
  ·split
   ·exact Good.nil
   ·exact Good.drop (b := r.fB) (e := r.fBad) hr _
  ·exact hr
 ·have hl := vlist_length a
  have h1 : (vlist a ++ rest).take 32 = vlist a := by rw [List.take_append_of_le_length (by omega), List.take_of_length_le (by omega)]
  have h2 : (vlist a ++ rest).drop 32 = rest := List.drop_left' hl
  simp only [hashR, if_true, h1, h2, vofL_vlist]
  rw [if_neg (by simp [hl])]
 ·unfold hashR at hb ⊢
  by_cases h : r.fBad = 0
  ·by_cases hl : r.fB.length < 32
   ·simp [h, hl] at hb
   ·simp only [h, hl, if_true, if_false]
    rw [vlist_vofL (by simp; omega)]
    exact ⟨trivial, (List.take_append_drop _ _).symm, fun x hx => hr.1 x (List.mem_of_mem_take hx)⟩
  ·simp [h] at hb
/-! ### bytes -/
def bytesR (most : Int) (r : Rd) : List Int × Rd :=
 if r.fBad = 0 then
  (if (pN 0 0 r.fB).2.2 ≠ 0 then ([], ⟨[], (pN 0 0 r.fB).2.2⟩)
   else if most < (pN 0 0 r.fB).1 then ([], ⟨[], 4⟩)
   else if (r.fB.length : Int) - (pN 0 0 r.fB).2.1 < (pN 0 0 r.fB).1 then ([], ⟨[], 3⟩)
   else ((r.fB.drop (pN 0 0 r.fB).2.1.toNat).take (pN 0 0 r.fB).1.toNat, ⟨r.fB.drop ((pN 0 0 r.fB).2.1.toNat + (pN 0 0 r.fB).1.toNat), 0⟩))
 else ([], r)
theorem bytesR_eq {K : Nat} (hK : 1000000000000 ≤ K) {most : Int} {r : Rd} (hr : Good r) : wire_Reader_Bytes.f K most r = some (bytesR most r) := by
 obtain ⟨b, x⟩ := r
 have hl2 := hr.2
 simp only at hl2
 have hl : b.length < 1000000000000 := by omega
 by_cases h : x = 0
 ·subst h
  by_cases h2 : (pN 0 0 b).2.2 = 0
  ·obtain ⟨n, rest, h3, h4, h5⟩ := num_split hr.1 h2
   simp only at h4 h5
   by_cases hm : most < (n : Int)
   ·unfold wire_Reader_Bytes.f wire_take_byte.f wire_Reader_Bad.f wire_Reader_Bytes_1.f
    simp only [Option.bind_some]
    rw [bif_false (by simp), number_eq hK hr.1 hl, h5]
    simp only [Option.bind_some]
    rw [bif_false (by simp), bif_true (dec_t hm)]
    simp only [Option.bind_some]
    rw [bif_true (by simp), fail_eq (by omega)]
    simp [bytesR, h5, hm]
   ·have hnl := numS_len h3
    have hbl : b.length = (numS n).length + rest.length := by rw [h4]; simp
    by_cases hs : (b.length : Int) - ((numS n).length : Int) < n
    ·unfold wire_Reader_Bytes.f wire_take_byte.f wire_Reader_Bad.f wire_Reader_Bytes_1.f
     simp only [Option.bind_some]
     rw [bif_false (by simp), number_eq hK hr.1 hl, h5]
     simp only [Option.bind_some]
     rw [bif_false (by simp), bif_false (dec_f hm), wrap64 (by omega) (by omega), bif_true (dec_t hs)]
     simp only [Option.bind_some]
     rw [bif_true (by simp), fail_eq (by omega)]
     simp [bytesR, h5, hm, hs]
    ·have e1 : (rest.take n).length = n := by simp; omega
     have := rbytes_ok (K := K) (most := most) (b := b) (bs := rest.take n) (rest := rest.drop n) hK hr.1 hl (by omega) (by omega) (by rw [e1, List.take_append_drop]; exact h4)
     rw [this]
     simp only [bytesR, h5, if_true, ne_eq, not_true_eq_false, if_false, hm, hs]
     rw [h4]
     simp
  ·have hp : pN 0 0 b = (0, 0, (pN 0 0 b).2.2) := by
    rcases pN_err b 0 0 with e | e | e
    ·exact absurd e h2
    ·rw [e]
    ·rw [e]
   generalize (pN 0 0 b).2.2 = e at hp h2
   unfold wire_Reader_Bytes.f wire_take_byte.f wire_Reader_Bad.f wire_Reader_Bytes_1.f
   simp only [Option.bind_some]
   rw [bif_false (by simp), number_eq hK hr.1 hl, hp]
   simp only [Option.bind_some]
   rw [bif_true (by simp [h2])]
   simp only [Option.bind_some]
   rw [bif_true (by simp [h2]), fail_eq h2]
   simp [bytesR, hp, h2]
 ·rw [rbytes_bad h]; simp [bytesR, h]
theorem bytesR_spec {most : Int} (hm : most < 2147483648) : RdSpec (bytesR most) (fun b => numS b.length ++ b) (fun b => (b.length : Int) ≤ most ∧ isB b) := by
 refine ⟨fun r hr => ?_, fun a rest ha hg => ?_, fun r hr hb => ?_⟩
 ·unfold bytesR; split
  ·split
   ·exact Good.nil
   ·split
    ·exact Good.nil
    ·split
     ·exact Good.nil
     ·exact Good.drop (b := r.fB) (e := r.fBad) hr _
  ·exact hr
 ·have hp := pN_num (n := a.length) (by omega) (a ++ rest)
  rw [List.append_assoc]
  simp only [bytesR, hp, if_true, ne_eq, not_true_eq_false, if_false]
  rw [if_neg (by omega), if_neg (by simp; omega)]
  simp
 ·unfold bytesR at hb ⊢
  by_cases h : r.fBad = 0
  ·by_cases h2 : (pN 0 0 r.fB).2.2 = 0
   ·obtain ⟨n, rest, h3, h4, h5⟩ := num_split hr.1 h2
    have hbl : r.fB.length = (numS n).length + rest.length := by rw [h4]; simp
    by_cases h6 : most < (n : Int)
    ·simp [h, h5, h6] at hb
    ·by_cases hs : (r.fB.length : Int) - ((numS n).length : Int) < n
     ·simp [h, h5, h6, hs] at hb
     ·simp only [h, h5, h6, hs, if_true, ne_eq, not_true_eq_false, if_false]
      have e1 : (rest.take n).length = n := by simp; omega
      have e2 : (r.fB.drop (numS n).length).take n = rest.take n := by rw [h4]; simp
      simp only [Int.toNat_natCast]
      rw [e2, e1]
      refine ⟨trivial, ?_, by omega, ?_⟩
      ·rw [h4]; simp
      ·intro x hx
       exact hr.1 x (by rw [h4]; exact List.mem_append_right _ (List.mem_of_mem_take hx))
   ·simp [h, h2] at hb
  ·simp [h] at hb
/-! ### one behind the other -/
def seqR {α β : Type} (p : Rd → α × Rd) (q : α → Rd → β × Rd) (r : Rd) : (α × β) × Rd := (((p r).1, (q (p r).1 (p r).2).1), (q (p r).1 (p r).2).2)
theorem RdSpec.seq {α β : Type} {p : Rd → α × Rd} {q : α → Rd → β × Rd} {W : α → List Int} {Ok : α → Prop} {W' : α → β → List Int} {Ok' : α → β → Prop} (h : RdSpec p W Ok) (h' : ∀ a, RdSpec (q a) (W' a) (Ok' a)) :
  RdSpec (seqR p q) (fun x => W x.1 ++ W' x.1 x.2) (fun x => Ok x.1 ∧ Ok' x.1 x.2) := by
 refine ⟨fun r hr => (h' _).good _ (h.good _ hr), fun a rest ha hg => ?_, fun r hr hb => ?_⟩
 ·rw [List.append_assoc] at hg ⊢
  have e := h.ok a.1 _ ha.1 hg
  simp only [seqR, e]
  rw [(h' a.1).ok a.2 rest ha.2 hg.tail]
 ·obtain ⟨h1, h2, h3⟩ := (h' _).back _ (h.good _ hr) hb
  obtain ⟨h4, h5, h6⟩ := h.back _ hr h1
  refine ⟨h4, ?_, h6, h3⟩
  show r.fB = (W (p r).1 ++ W' (p r).1 (q (p r).1 (p r).2).1) ++ (q (p r).1 (p r).2).2.fB
  rw [List.append_assoc, ← h2]; exact h5
def mapR {α β : Type} (e : α → β) (p : Rd → α × Rd) (r : Rd) : β × Rd := (e (p r).1, (p r).2)
theorem RdSpec.map {α β : Type} {p : Rd → α × Rd} {W : α → List Int} {Ok : α → Prop} {e : α → β} (hp : RdSpec p W Ok) (h : β → α) (he : ∀ a, h (e a) = a) : RdSpec (mapR e p) (fun b => W (h b)) (fun b => Ok (h b) ∧ e (h b) = b) := by
 refine ⟨fun r hr => hp.good _ hr, fun b rest hb hg => ?_, fun r hr hb => ?_⟩
 ·simp only [mapR]; rw [hp.ok _ _ hb.1 hg, hb.2]
 ·obtain ⟨h1, h2, h3⟩ := hp.back _ hr hb
  simp only [mapR]
  rw [he]
  exact ⟨h1, h2, h3, rfl⟩
theorem RdSpec.conv {α : Type} {p : Rd → α × Rd} {W W' : α → List Int} {Ok Ok' : α → Prop} (hp : RdSpec p W Ok) (h1 : ∀ a, Ok a → W a = W' a) (h2 : ∀ a, Ok' a ↔ Ok a) : RdSpec p W' Ok' := by
 refine ⟨hp.good, fun a rest ha hg => ?_, fun r hr hb => ?_⟩
 ·rw [← h1 a ((h2 a).1 ha)] at hg ⊢; exact hp.ok a rest ((h2 a).1 ha) hg
 ·obtain ⟨e1, e2, e3⟩ := hp.back r hr hb
  exact ⟨e1, by rw [← h1 _ e3]; exact e2, (h2 _).2 e3⟩
/-- a number that may not be greater -/
def capR (most code : Int) (r : Rd) : Int × Rd := ((numR r).1, if most < (numR r).1 then failR code (numR r).2 else (numR r).2)
theorem capR_spec {most code : Int} (hm : most < 2147483648) (hc : code ≠ 0) : RdSpec (capR most code) (fun n => numS n.toNat) (fun n => 0 ≤ n ∧ n ≤ most) := by
 refine ⟨fun r hr => ?_, fun a rest ha hg => ?_, fun r hr hb => ?_⟩
 ·unfold capR
  simp only
  split
  ·exact failR_good (numR_spec.good _ hr)
  ·exact numR_spec.good _ hr
 ·simp only [capR]; rw [numR_spec.ok a rest (by omega) hg]
  simp only
  rw [if_neg (by omega)]
 ·simp only [capR] at hb ⊢
  by_cases h : most < (numR r).1
  ·rw [if_pos h] at hb; exact absurd hb (failR_bad hc _)
  ·rw [if_neg h] at hb ⊢
   obtain ⟨h1, h2, h3⟩ := numR_spec.back r hr hb
   exact ⟨h1, h2, h3.1, by omega⟩
/-! ### lists -/
def listR {α : Type} (one : Nat → Rd → α × Rd) : Nat → Nat → Rd → List α × Rd
 | 0, _, r => ([], r)
 | n + 1, i, r => if r.fBad = 0 then ((one i r).1 :: (listR one n (i + 1) (one i r).2).1, (listR one n (i + 1) (one i r).2).2) else ([], r)
theorem RdSpec.list {α : Type} {one : Nat → Rd → α × Rd} {W : α → List Int} {Ok : Nat → α → Prop} (h : ∀ i, RdSpec (one i) W (Ok i)) : ∀ (n i : Nat), RdSpec (listR one n i) (fun l => (l.map W).flatten) (fun l => l.length = n ∧ ∀ j x, l[j]? = some x → Ok (i + j) x) := by
 intro n
 induction n with
 | zero =>
  intro i
  refine ⟨fun r hr => hr, fun a rest ha hg => ?_, fun r hr hb => ?_⟩
  ·have : a = [] := List.length_eq_zero_iff.1 ha.1
   subst this; rfl
  ·exact ⟨hb, by simp [listR], rfl, by simp [listR]⟩
 | succ n ih =>
  intro i
  refine ⟨fun r hr => ?_, fun a rest ha hg => ?_, fun r hr hb => ?_⟩
  ·unfold listR; split
   ·exact (ih _).good _ ((h i).good _ hr)
   ·exact hr
  ·cases a with
   | nil => exact absurd ha.1 (by simp)
   | cons x l =>
    simp only [List.map_cons, List.flatten_cons, List.append_assoc] at hg ⊢
    have e := (h i).ok x _ (ha.2 0 x rfl) hg
    simp only [listR, if_true]
    rw [e]
    simp only
    rw [(ih (i + 1)).ok l rest ⟨by have := ha.1; simp at this; exact this, fun j y hy => by have := ha.2 (j + 1) y (by simpa using hy); rwa [Nat.add_assoc, Nat.add_comm 1 j]⟩ hg.tail]
  ·unfold listR at hb ⊢
   by_cases h0 : r.fBad = 0
   ·rw [if_pos h0] at hb ⊢
    obtain ⟨e1, e2, e3⟩ := (ih (i + 1)).back _ ((h i).good _ hr) hb
    obtain ⟨e4, e5, e6⟩ := (h i).back _ hr e1
    refine ⟨h0, ?_, by simp [e3.1], fun j y hy => ?_⟩
    ·simp only [List.map_cons, List.flatten_cons, List.append_assoc]
     rw [← e2]; exact e5
    ·cases j with
     | zero => simp at hy; subst hy; exact e6
     | succ j => have := e3.2 j y (by simpa using hy); rwa [Nat.add_assoc, Nat.add_comm 1 j] at this
   ·rw [if_neg h0] at hb; exact absurd hb h0
/-- a list with how many there are ahead -/
theorem RdSpec.counted {α : Type} {one : Nat → Rd → α × Rd} {W : α → List Int} {Ok : Nat → α → Prop} {most code : Int} (hm : most < 2147483648) (hc : code ≠ 0) (h : ∀ i, RdSpec (one i) W (Ok i)) :
  RdSpec (mapR Prod.snd (seqR (capR most code) (fun n => listR one n.toNat 0))) (fun l => numS l.length ++ (l.map W).flatten) (fun l => (l.length : Int) ≤ most ∧ ∀ j x, l[j]? = some x → Ok j x) := by
 have hs := (capR_spec hm hc).seq (fun n => RdSpec.list h n.toNat 0)
 refine ⟨fun r hr => hs.good r hr, fun a rest ha hg => ?_, fun r hr hb => ?_⟩
 ·have := hs.ok ((a.length : Int), a) rest ⟨⟨by omega, ha.1⟩, rfl, fun j x hx => by rw [Nat.zero_add]; exact ha.2 j x hx⟩ hg
  simp only [mapR]
  simp only [Int.toNat_natCast] at this
  rw [this]
 ·obtain ⟨h1, h2, ⟨h3, h4⟩, h5, h6⟩ := hs.back r hr hb
  refine ⟨h1, ?_, ?_, fun j x hx => ?_⟩
  ·simp only [mapR]
   rw [h5]; exact h2
  ·simp only [mapR]; omega
  ·have := h6 j x hx; rwa [Nat.zero_add] at this
/-- the loop that reads a list -/
theorem read_loop {α : Type} {L : Nat → (List α × Int × Rd) → Option (List α × Rd)} {one : Nat → Rd → α × Rd} {N : Nat} (hN : N < 3000000000) (good : ∀ i r, Good r → Good (one i r).2)
  (h0 : ∀ k out r, L (k + 1) (out, (N : Int), r) = some (out, r))
  (h1 : ∀ k out (i : Nat) r, i < N → r.fBad ≠ 0 → L (k + 1) (out, (i : Int), r) = some (out, r))
  (h2 : ∀ k out (i : Nat) r, i < N → r.fBad = 0 → Good r → out.length ≤ i → L (k + 1) (out, (i : Int), r) = L k (out ++ [(one i r).1], ((i + 1 : Nat) : Int), (one i r).2)) :
  ∀ (n i : Nat) (out : List α) (r : Rd) (k : Nat), i + n = N → n < k → Good r → out.length ≤ i → L k (out, (i : Int), r) = some (out ++ (listR one n i r).1, (listR one n i r).2) := by
 intro n
 induction n with
 | zero =>
  intro i out r k hi hk hr ho
  obtain ⟨k, rfl⟩ : ∃ j, k = j + 1 := ⟨k - 1, by omega⟩
  have : i = N := by omega
  subst this
  rw [h0]; simp [listR]
 | succ n ih =>
  intro i out r k hi hk hr ho
  obtain ⟨k, rfl⟩ : ∃ j, k = j + 1 := ⟨k - 1, by omega⟩
  unfold listR
  by_cases hb : r.fBad = 0
  ·rw [if_pos hb, h2 k out i r (by omega) hb hr ho, ih (i + 1) _ _ k (by omega) (by omega) (good i r hr) (by simp; omega)]
   simp
  ·rw [if_neg hb, h1 k out i r (by omega) hb]; simp
end Go.Proofs.YtlcnliiampfigaaDoor
