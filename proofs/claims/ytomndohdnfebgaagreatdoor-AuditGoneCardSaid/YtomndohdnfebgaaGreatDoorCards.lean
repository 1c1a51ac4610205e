/-
  DERIVED. GIVEN WITH THE SEED: THE CARDS: each row of YtomndohdnfebgaaGreatDoorRows.lean that lists a variable, with what it lists TIED to the program's text (the seventh form; the later family's looks); each row that meets fmt, with fmt's text TOLD by the authors' own Lean function (tested against real Go, not proved from fmt's source: count such statements apart). THE CARD IS WHAT COUNTS. Prove the row's statement (the work); the ties are given (YtomndohdnfebgaaGreatDoorTie.lean); close each card by the builder's one call (the guide's Derived/Test/ToyasCard.lean, 'card_holds'). Laid BY PROGRAM, IN A SANDBOX (cutbox-door.mjs). By AI agents, Wed Nov 11 2026. No macro, syntax, notation, axiom, sorry.
-/
import Derived.Test.YtomndohdnfebgaaGreatDoorRows
import GoSem.ClaimSeven
namespace Go.Proofs.YtomndohdnfebgaaGreatDoor
namespace Rows

/-- THE TIED CARD OF 'inspeximuslaw19.AuditSame'. -/
def auditSameCard : Claim7 := { stood := { row := auditSameRow, standIns := [], harness := (true, "f58eb9baf4613839a835c41ab4429e80f7a3e5f8eb58c59cd321303fa110546e"), looks := true }, kinds := [], alts := [], laidByText := true, laidKinds := [.data, .data], laidTests := true, laidLooks := .later }
def AuditSameCardSaid : Prop := Claim7.holds Tryz.pinned (.plain (OpenSpec.ofChange auditSameSpec)) auditSameCard

/-- THE TIED CARD OF 'inspeximuslaw19.AuditGone'. -/
def auditGoneCard : Claim7 := { stood := { row := auditGoneRow, standIns := [], harness := (true, "f58eb9baf4613839a835c41ab4429e80f7a3e5f8eb58c59cd321303fa110546e"), looks := true }, kinds := [], alts := [], laidByText := true, laidKinds := [.data, .data], laidTests := true, laidLooks := .later }
def AuditGoneCardSaid : Prop := Claim7.holds Tryz.pinned (.plain (OpenSpec.ofChange auditGoneSpec)) auditGoneCard

/-- THE TIED CARD OF 'inspeximuslaw19.AuditTrusts'. -/
def auditTrustsCard : Claim7 := { stood := { row := auditTrustsRow, standIns := [], harness := (true, "f58eb9baf4613839a835c41ab4429e80f7a3e5f8eb58c59cd321303fa110546e"), looks := true }, kinds := [], alts := [], laidByText := true, laidKinds := [.data, .data], laidTests := true, laidLooks := .later }
def AuditTrustsCardSaid : Prop := Claim7.holds Tryz.pinned (.plain (OpenSpec.ofChange auditTrustsSpec)) auditTrustsCard

/-- THE TIED CARD OF 'inspeximuslaw19.AuditFewer'. -/
def auditFewerCard : Claim7 := { stood := { row := auditFewerRow, standIns := [], harness := (true, "f58eb9baf4613839a835c41ab4429e80f7a3e5f8eb58c59cd321303fa110546e"), looks := true }, kinds := [], alts := [], laidByText := true, laidKinds := [.data, .data], laidTests := true, laidLooks := .later }
def AuditFewerCardSaid : Prop := Claim7.holds Tryz.pinned (.plain (OpenSpec.ofChange auditFewerSpec)) auditFewerCard

/-- THE TIED CARD OF 'inspeximuslaw19.AuditSmall'. -/
def auditSmallCard : Claim7 := { stood := { row := auditSmallRow, standIns := [], harness := (true, "f58eb9baf4613839a835c41ab4429e80f7a3e5f8eb58c59cd321303fa110546e"), looks := true }, kinds := [], alts := [], laidByText := true, laidKinds := [.data, .data], laidTests := true, laidLooks := .later }
def AuditSmallCardSaid : Prop := Claim7.holds Tryz.pinned (.plain (OpenSpec.ofChange auditSmallSpec)) auditSmallCard

/-- THE TIED CARD OF 'inspeximuslaw19.AuditMeans'. -/
def auditMeansCard : Claim7 := { stood := { row := auditMeansRow, standIns := [], harness := (true, "f58eb9baf4613839a835c41ab4429e80f7a3e5f8eb58c59cd321303fa110546e"), looks := true }, kinds := [], alts := [], laidByText := true, laidKinds := [.data, .data], laidTests := true, laidLooks := .later }
def AuditMeansCardSaid : Prop := Claim7.holds Tryz.pinned (.plain (OpenSpec.ofChange auditMeansSpec)) auditMeansCard

/-- THE TIED CARD OF 'inspeximuslaw19.AuditAlone'. -/
def auditAloneCard : Claim7 := { stood := { row := auditAloneRow, standIns := [], harness := (true, "f58eb9baf4613839a835c41ab4429e80f7a3e5f8eb58c59cd321303fa110546e"), looks := true }, kinds := [], alts := [], laidByText := true, laidKinds := [.data, .data], laidTests := true, laidLooks := .later }
def AuditAloneCardSaid : Prop := Claim7.holds Tryz.pinned (.plain (OpenSpec.ofChange auditAloneSpec)) auditAloneCard

/-- THE SECOND FORM's CARD OF 'inspeximuslaw19.AuditSame'. -/
def auditSameUptoCard : Claim7 := { stood := { row := auditSameUptoRow, standIns := [], harness := (true, "f58eb9baf4613839a835c41ab4429e80f7a3e5f8eb58c59cd321303fa110546e"), looks := true }, kinds := [], alts := [], laidByText := true, laidKinds := [.data, .data], laidTests := true, laidLooks := .later }
def AuditSameUptoCardSaid : Prop := Claim7.holds Tryz.pinned (.plain (OpenSpec.upto auditSameSpec)) auditSameUptoCard

/-- THE SECOND FORM's CARD OF 'inspeximuslaw19.AuditGone'. -/
def auditGoneUptoCard : Claim7 := { stood := { row := auditGoneUptoRow, standIns := [], harness := (true, "f58eb9baf4613839a835c41ab4429e80f7a3e5f8eb58c59cd321303fa110546e"), looks := true }, kinds := [], alts := [], laidByText := true, laidKinds := [.data, .data], laidTests := true, laidLooks := .later }
def AuditGoneUptoCardSaid : Prop := Claim7.holds Tryz.pinned (.plain (OpenSpec.upto auditGoneSpec)) auditGoneUptoCard

/-- THE SECOND FORM's CARD OF 'inspeximuslaw19.AuditTrusts'. -/
def auditTrustsUptoCard : Claim7 := { stood := { row := auditTrustsUptoRow, standIns := [], harness := (true, "f58eb9baf4613839a835c41ab4429e80f7a3e5f8eb58c59cd321303fa110546e"), looks := true }, kinds := [], alts := [], laidByText := true, laidKinds := [.data, .data], laidTests := true, laidLooks := .later }
def AuditTrustsUptoCardSaid : Prop := Claim7.holds Tryz.pinned (.plain (OpenSpec.upto auditTrustsSpec)) auditTrustsUptoCard

/-- THE SECOND FORM's CARD OF 'inspeximuslaw19.AuditFewer'. -/
def auditFewerUptoCard : Claim7 := { stood := { row := auditFewerUptoRow, standIns := [], harness := (true, "f58eb9baf4613839a835c41ab4429e80f7a3e5f8eb58c59cd321303fa110546e"), looks := true }, kinds := [], alts := [], laidByText := true, laidKinds := [.data, .data], laidTests := true, laidLooks := .later }
def AuditFewerUptoCardSaid : Prop := Claim7.holds Tryz.pinned (.plain (OpenSpec.upto auditFewerSpec)) auditFewerUptoCard

/-- THE SECOND FORM's CARD OF 'inspeximuslaw19.AuditSmall'. -/
def auditSmallUptoCard : Claim7 := { stood := { row := auditSmallUptoRow, standIns := [], harness := (true, "f58eb9baf4613839a835c41ab4429e80f7a3e5f8eb58c59cd321303fa110546e"), looks := true }, kinds := [], alts := [], laidByText := true, laidKinds := [.data, .data], laidTests := true, laidLooks := .later }
def AuditSmallUptoCardSaid : Prop := Claim7.holds Tryz.pinned (.plain (OpenSpec.upto auditSmallSpec)) auditSmallUptoCard

/-- THE SECOND FORM's CARD OF 'inspeximuslaw19.AuditMeans'. -/
def auditMeansUptoCard : Claim7 := { stood := { row := auditMeansUptoRow, standIns := [], harness := (true, "f58eb9baf4613839a835c41ab4429e80f7a3e5f8eb58c59cd321303fa110546e"), looks := true }, kinds := [], alts := [], laidByText := true, laidKinds := [.data, .data], laidTests := true, laidLooks := .later }
def AuditMeansUptoCardSaid : Prop := Claim7.holds Tryz.pinned (.plain (OpenSpec.upto auditMeansSpec)) auditMeansUptoCard

/-- THE SECOND FORM's CARD OF 'inspeximuslaw19.AuditAlone'. -/
def auditAloneUptoCard : Claim7 := { stood := { row := auditAloneUptoRow, standIns := [], harness := (true, "f58eb9baf4613839a835c41ab4429e80f7a3e5f8eb58c59cd321303fa110546e"), looks := true }, kinds := [], alts := [], laidByText := true, laidKinds := [.data, .data], laidTests := true, laidLooks := .later }
def AuditAloneUptoCardSaid : Prop := Claim7.holds Tryz.pinned (.plain (OpenSpec.upto auditAloneSpec)) auditAloneUptoCard
end Rows
end Go.Proofs.YtomndohdnfebgaaGreatDoor
