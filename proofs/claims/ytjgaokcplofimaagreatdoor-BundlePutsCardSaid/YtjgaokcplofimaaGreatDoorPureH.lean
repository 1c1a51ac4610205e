/-
 Plain: the digest of parts is always there.
-/
import Derived.Test.YtjgaokcplofimaaGreatDoorPureT
namespace Go.Proofs.YtjgaokcplofimaaGreatDoor
open Go Go.Sep
theorem loop_tot {Y R : Type} {L : Nat → Y → Option R} (I : Nat → Y → Prop) (h0 : ∀ k y, I 0 y → ∃ r, L (k + 1) y = some r)
  (hs : ∀ k n y, I (n + 1) y → ∃ y', I n y' ∧ L (k + 1) y = L k y') : ∀ (n : Nat) (y : Y) (k : Nat), I n y → n < k → ∃ r, L k y = some r := by
 intro n
 induction n with
 | zero =>
  intro y k hi hk
  obtain ⟨k, rfl⟩ : ∃ j, k = j + 1 := ⟨k - 1, by omega⟩
  exact h0 k y hi
 | succ n ih =>
  intro y k hi hk
  obtain ⟨k, rfl⟩ : ∃ j, k = j + 1 := ⟨k - 1, by omega⟩
  obtain ⟨y', h1, h2⟩ := hs k n y hi
  rw [h2]
  exact ih y' k h1 (by omega)
theorem bind_ex {α β : Type} {o : Option α} {x : α} {f : α → Option β} (h : o = some x) (h2 : ∃ r, f x = some r) : ∃ r, o.bind f = some r := by rw [h]; exact h2
theorem bind_exP {α β : Type} {o : Option α} {x : α} {f : α → Option β} {P : β → Prop} (h : o = some x) (h2 : ∃ r, f x = some r ∧ P r) : ∃ r, o.bind f = some r ∧ P r := by rw [h]; exact h2
theorem inA_lit {N i : Nat} (h : i < N) : inA N (i : Int) = true := by
 unfold inA
 rw [dec_t (by omega), dec_t (by omega)]; rfl
theorem getI_ex {α : Type} {l : List α} {i : Nat} (h : i < l.length) : ∃ x, getI l (i : Int) = some x := ⟨l[i], by rw [getI_nat, List.getElem?_eq_getElem h]⟩
end Go.Proofs.YtjgaokcplofimaaGreatDoor
