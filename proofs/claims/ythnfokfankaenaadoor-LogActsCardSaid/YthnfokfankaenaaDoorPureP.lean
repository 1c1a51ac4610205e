/-
 Plain: readers as functions; what it means that a reader reads what is put; sequences and lists of readers.
-/
import Derived.Test.YthnfokfankaenaaDoorPureS
namespace Go.Proofs.YthnfokfankaenaaDoor
open Go Go.Sep
def Good (r : Rd) : Prop := isB r.fB ∧ r.fB.length < 1000000000
theorem Good.nil {e : Int} : Good ⟨[], e⟩ := ⟨isB_nil, by simp⟩
theorem Good.drop {b : List Int} {e e' : Int} (h : Good ⟨b, e⟩) (n : Nat) : Good ⟨b.drop n, e'⟩ :=
 ⟨fun x hx => h.1 x (List.mem_of_mem_drop hx), by have := h.2; simp at this ⊢; omega⟩
structure RdSpec {α : Type} (p : Rd → α × Rd) (W : α → List Int) (Ok : α → Prop) : Prop where
 good : ∀ r, Good r → Good (p r).2
 ok : ∀ a rest, Ok a → Good ⟨W a ++ rest, 0⟩ → p ⟨W a ++ rest, 0⟩ = (a, ⟨rest, 0⟩)
 back : ∀ r, Good r → (p r).2.fBad = 0 → r.fBad = 0 ∧ r.fB = W (p r).1 ++ (p r).2.fB ∧ Ok (p r).1
/-! ### numbers -/
def numR (r : Rd) : Int × Rd :=
 if r.fBad = 0 then
  (if (pN 0 0 r.fB).2.2 = 0 then ((pN 0 0 r.fB).1, ⟨r.fB.drop (pN 0 0 r.fB).2.1.toNat, 0⟩) else (0, ⟨[], (pN 0 0 r.fB).2.2⟩))
 else (0, r)
theorem num_split {b : List Int} (hb : isB b) (h : (pN 0 0 b).2.2 = 0) : ∃ (n : Nat) (rest : List Int), n < 2147483648 ∧ b = numS n ++ rest ∧ pN 0 0 b = ((n : Int), ((numS n).length : Int), 0) := by
 obtain ⟨n, k, e, he⟩ : ∃ n k e, pN 0 0 b = (n, k, e) := ⟨_, _, _, rfl⟩
 rw [he] at h
 simp only at h
 subst h
 obtain ⟨n', j, h1, h2, h3, h4, h5, h6, _⟩ := pN_back b 0 0 n k hb (by rw [hiB_zero]; rfl) he
 rw [hiB_zero, List.nil_append] at h6
 refine ⟨n', b.drop j, h3, ?_, ?_⟩
 ·rw [← h6, List.take_append_drop]
 ·have hl : (numS n').length = j := by rw [← h6]; simp; omega
  rw [he, h1, h2, hl]; simp
/-! ### flags -/
def flagR (r : Rd) : Bool × Rd :=
 if r.fBad = 0 then (match r.fB with | [] => (false, ⟨[], 3⟩) | c :: l => if 1 < c then (false, ⟨[], 2⟩) else (decide (c = 1), ⟨l, 0⟩)) else (false, r)
/-! ### hashes -/
/-! ### bytes -/
def bytesR (most : Int) (r : Rd) : List Int × Rd :=
 if r.fBad = 0 then
  (if (pN 0 0 r.fB).2.2 ≠ 0 then ([], ⟨[], (pN 0 0 r.fB).2.2⟩)
   else if most < (pN 0 0 r.fB).1 then ([], ⟨[], 4⟩)
   else if (r.fB.length : Int) - (pN 0 0 r.fB).2.1 < (pN 0 0 r.fB).1 then ([], ⟨[], 3⟩)
   else ((r.fB.drop (pN 0 0 r.fB).2.1.toNat).take (pN 0 0 r.fB).1.toNat, ⟨r.fB.drop ((pN 0 0 r.fB).2.1.toNat + (pN 0 0 r.fB).1.toNat), 0⟩))
 else ([], r)
theorem bytesR_eq {K : Nat} (hK : 1000000000000 ≤ K) {most : Int} {r : Rd} (hr : Good r) : wire_Reader_Bytes.f K most r = some (bytesR most r) := by
 obtain ⟨b, x⟩ := r
 have hl2 := hr.2
 simp only at hl2
 have hl : b.length < 1000000000000 := by omega
 by_cases h : x = 0
 ·subst h
  by_cases h2 : (pN 0 0 b).2.2 = 0
  ·obtain ⟨n, rest, h3, h4, h5⟩ := num_split hr.1 h2
   simp only at h4 h5
   by_cases hm : most < (n : Int)
   ·unfold wire_Reader_Bytes.f wire_take_byte.f wire_Reader_Bad.f wire_Reader_Bytes_1.f
    simp only [Option.bind_some]
    rw [bif_false (by simp), number_eq hK hr.1 hl, h5]
    simp only [Option.bind_some]
    rw [bif_false (by simp), bif_true (dec_t hm)]
    simp only [Option.bind_some]
    rw [bif_true (by simp), fail_eq (by omega)]
    simp [bytesR, h5, hm]
   ·have hnl := numS_len h3
    have hbl : b.length = (numS n).length + rest.length := by rw [h4]; simp
    by_cases hs : (b.length : Int) - ((numS n).length : Int) < n
    ·unfold wire_Reader_Bytes.f wire_take_byte.f wire_Reader_Bad.f wire_Reader_Bytes_1.f
     simp only [Option.bind_some]
     rw [bif_false (by simp), number_eq hK hr.1 hl, h5]
     simp only [Option.bind_some]
     rw [bif_false (by simp), bif_false (dec_f hm), wrap64 (by omega) (by omega), bif_true (dec_t hs)]
     simp only [Option.bind_some]
     rw [bif_true (by simp), fail_eq (by omega)]
     simp [bytesR, h5, hm, hs]
    ·have e1 : (rest.take n).length = n := by simp; omega
     have := rbytes_ok (K := K) (most := most) (b := b) (bs := rest.take n) (rest := rest.drop n) hK hr.1 hl (by omega) (by omega) (by rw [e1, List.take_append_drop]; exact h4)
     rw [this]
     simp only [bytesR, h5, if_true, ne_eq, not_true_eq_false, if_false, hm, hs]
     rw [h4]
     simp
  ·have hp : pN 0 0 b = (0, 0, (pN 0 0 b).2.2) := by
    rcases pN_err b 0 0 with e | e | e
    ·exact absurd e h2
    ·rw [e]
    ·rw [e]
   generalize (pN 0 0 b).2.2 = e at hp h2
   unfold wire_Reader_Bytes.f wire_take_byte.f wire_Reader_Bad.f wire_Reader_Bytes_1.f
   simp only [Option.bind_some]
   rw [bif_false (by simp), number_eq hK hr.1 hl, hp]
   simp only [Option.bind_some]
   rw [bif_true (by simp [h2])]
   simp only [Option.bind_some]
   rw [bif_true (by simp [h2]), fail_eq h2]
   simp [bytesR, hp, h2]
 ·rw [rbytes_bad h]; simp [bytesR, h]
theorem bytesR_spec {most : Int} (hm : most < 2147483648) : RdSpec (bytesR most) (fun b => numS b.length ++ b) (fun b => (b.length : Int) ≤ most ∧ isB b) := by
 refine ⟨fun r hr => ?_, fun a rest ha hg => ?_, fun r hr hb => ?_⟩
 ·unfold bytesR; split
  ·split
   ·exact Good.nil
   ·split
    ·exact Good.nil
    ·split
     ·exact Good.nil
     ·exact Good.drop (b := r.fB) (e := r.fBad) hr _
  ·exact hr
 ·have hp := pN_num (n := a.length) (by omega) (a ++ rest)
  rw [List.append_assoc]
  simp only [bytesR, hp, if_true, ne_eq, not_true_eq_false, if_false]
  rw [if_neg (by omega), if_neg (by simp; omega)]
  simp
 ·unfold bytesR at hb ⊢
  by_cases h : r.fBad = 0
  ·by_cases h2 : (pN 0 0 r.fB).2.2 = 0
   ·obtain ⟨n, rest, h3, h4, h5⟩ := num_split hr.1 h2
    have hbl : r.fB.length = (numS n).length + rest.length := by rw [h4]; simp
    by_cases h6 : most < (n : Int)
    ·simp [h, h5, h6] at hb
    ·by_cases hs : (r.fB.length : Int) - ((numS n).length : Int) < n
     ·simp [h, h5, h6, hs] at hb
     ·simp only [h, h5, h6, hs, if_true, ne_eq, not_true_eq_false, if_false]
      have e1 : (rest.take n).length = n := by simp; omega
      have e2 : (r.fB.drop (numS n).length).take n = rest.take n := by rw [h4]; simp
      simp only [Int.toNat_natCast]
      rw [e2, e1]
      refine ⟨trivial, ?_, by omega, ?_⟩
      ·rw [h4]; simp
      ·intro x hx
       exact hr.1 x (by rw [h4]; exact List.mem_append_right _ (List.mem_of_mem_take hx))
   ·simp [h, h2] at hb
  ·simp [h] at hb
/-! ### one behind the other -/
def seqR {α β : Type} (p : Rd → α × Rd) (q : α → Rd → β × Rd) (r : Rd) : (α × β) × Rd := (((p r).1, (q (p r).1 (p r).2).1), (q (p r).1 (p r).2).2)
/-! ### lists -/
end Go.Proofs.YthnfokfankaenaaDoor
