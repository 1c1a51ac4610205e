
/-
  Plain: how records are read.
-/
import Derived.Test.YthnfokfankaenaaDoorPureM
namespace Go.Proofs.YthnfokfankaenaaDoor
open Go Go.Sep

abbrev LoadT := H32 × H32 × List Int
def zH : H32 := Vector.replicate 32 0
def loadR : Bool → Rd → LoadT × Rd
  | true => mapR (fun h => (h, zH, [])) hashR
  | false => mapR (fun t => (zH, t.1, t.2)) (seqR hashR (fun _ => bytesR 60))
theorem loadR_spec : ∀ g, RdSpec (loadR g) (fun t => bif g then vlist t.1 else vlist t.2.1 ++ (numS t.2.2.length ++ t.2.2)) (fun t => bif g then isB (vlist t.1) ∧ t.2.1 = zH ∧ t.2.2 = [] else isB (vlist t.2.1) ∧ (t.2.2.length : Int) ≤ 60 ∧ isB t.2.2 ∧ t.1 = zH) := by
  intro g
  cases g with
  | true =>
    exact (hashR_spec.map (e := fun h => ((h, zH, []) : LoadT)) (fun t => t.1) (fun _ => rfl)).conv (fun _ _ => rfl) (fun t => by
      obtain ⟨a, b, c⟩ := t
      constructor
      · rintro ⟨h1, h2, h3⟩; simp only at h2 h3; exact ⟨h1, by rw [h2, h3]⟩
      · rintro ⟨h1, h2⟩; simp only [Prod.mk.injEq] at h2; exact ⟨h1, h2.2.1.symm, h2.2.2.symm⟩)
  | false =>
    have h := (hashR_spec.seq (fun _ => bytesR_spec (most := 60) (by omega))).map (e := fun (t : H32 × List Int) => ((zH, t.1, t.2) : LoadT)) (fun t => t.2) (fun _ => rfl)
    exact h.conv (fun _ _ => rfl) (fun t => by
      obtain ⟨a, b, c⟩ := t
      constructor
      · rintro ⟨h1, h2, h3, h4⟩; simp only at h4; exact ⟨⟨h1, h2, h3⟩, by rw [h4]⟩
      · rintro ⟨⟨h1, h2, h3⟩, h4⟩; simp only [Prod.mk.injEq] at h4; exact ⟨h1, h2, h3, h4.1.symm⟩)
def callR : Rd → CallT × Rd := seqR numR (fun _ => seqR numR (fun _ => seqR numR (fun _ => seqR numR (fun _ => flagR))))
abbrev AnsT := CallT × Bool × Int × Int × H32
def ansR : Rd → AnsT × Rd := seqR callR (fun _ => seqR flagR (fun _ => seqR numR (fun _ => seqR numR (fun _ => hashR))))
def cloR : Rd → (Int × Int × Int) × Rd := seqR numR (fun _ => seqR numR (fun _ => numR))
def rotR : Rd → (Int × Int) × Rd := seqR numR (fun _ => numR)
theorem callR_spec : RdSpec callR (fun t => numW t.1 ++ (numW t.2.1 ++ (numW t.2.2.1 ++ (numW t.2.2.2.1 ++ [flagI t.2.2.2.2])))) (fun t => inN t.1 ∧ inN t.2.1 ∧ inN t.2.2.1 ∧ inN t.2.2.2.1 ∧ True) :=
  numR_spec.seq (fun _ => numR_spec.seq (fun _ => numR_spec.seq (fun _ => numR_spec.seq (fun _ => flagR_spec))))
theorem isB_zH : isB (vlist zH) := by
  unfold isB
  decide
/-! ### the program's -/
end Go.Proofs.YthnfokfankaenaaDoor
