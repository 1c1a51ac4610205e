/-
 Plain: records: which are right, their open bytes, how they are read.
-/
import Derived.Test.YthnfokfankaenaaDoorPureP
namespace Go.Proofs.YthnfokfankaenaaDoor
open Go Go.Sep
abbrev H32 := Vector Int 32
/-! ### loops -/
theorem cat_loop {α : Type} {L : Nat → (List Int × Int) → Option (List Int)} (l : List α) (p : α → List Int) (s : List Int) {k : Nat} (hk : l.length < k)
  (h0 : ∀ k s, L (k + 1) (s, (l.length : Int)) = some s)
  (h1 : ∀ k s (i : Nat) x, i < l.length → getI l (i : Int) = some x → x ∈ l → s.length + (p x).length < 1000000000000 → L (k + 1) (s, (i : Int)) = L k (s ++ p x, ((i + 1 : Nat) : Int)))
  (hn : s.length + (l.map p).flatten.length < 1000000000000) : L k (s, 0) = some (s ++ (l.map p).flatten) := by
 have key : ∀ (m : List α) (i : Nat) (s : List Int) (k : Nat), l.drop i = m → i ≤ l.length → m.length < k → s.length + (m.map p).flatten.length < 1000000000000 → L k (s, (i : Int)) = some (s ++ (m.map p).flatten) := by
  intro m
  induction m with
  | nil =>
   intro i s k hm hi hk hn
   obtain ⟨k, rfl⟩ : ∃ j, k = j + 1 := ⟨k - 1, by simp at hk; omega⟩
   have : i = l.length := by
    have := congrArg List.length hm
    simp at this; omega
   subst this
   rw [h0]; simp
  | cons x m ih =>
   intro i s k hm hi hk hn
   obtain ⟨k, rfl⟩ : ∃ j, k = j + 1 := ⟨k - 1, by simp at hk; omega⟩
   have hlt : i < l.length := by
    have := congrArg List.length hm
    simp at this; omega
   have hx : l[i]? = some x := by
    have := congrArg (fun (l : List α) => l[0]?) hm
    simpa using this
   have hd : l.drop (i + 1) = m := by rw [← List.drop_drop, hm]; rfl
   simp only [List.map_cons, List.flatten_cons, List.length_append] at hn ⊢
   rw [h1 k s i x hlt (getI_lt hx) (List.mem_of_getElem? hx) (by omega), ih (i + 1) _ k hd (by omega) (by simp at hk; omega) (by rw [List.length_append]; omega)]
   simp
 exact key l 0 s k rfl (by omega) hk hn
/-! ### numbers that are right -/
/-! ### which records are right -/
/-! ### which records are the same -/
theorem bytes_same {K : Nat} {l m : List Int} (hl : isB l) (hm : isB m) : bytes_Equal.f K l m = some (decide (l = m)) := by
 unfold bytes_Equal.f
 rw [bofL_toList, bofL_toList]
 congr 1
 rw [Bool.eq_iff_iff]
 simp only [beq_iff_eq, decide_eq_true_eq]
 exact ⟨fun h => u8s_inj hl hm h, fun h => by rw [h]⟩
end Go.Proofs.YthnfokfankaenaaDoor
