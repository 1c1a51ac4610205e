/-
  DERIVED. GIVEN WITH THE SEED: THE CARDS: each row of YtjgaokcplofimaaDoorRows.lean that lists a variable, with what it lists TIED to the program's text (the seventh form; the later family's looks); each row that meets fmt, with fmt's text TOLD by the authors' own Lean function (tested against real Go, not proved from fmt's source: count such statements apart). THE CARD IS WHAT COUNTS. Prove the row's statement (the work); the ties are given (YtjgaokcplofimaaDoorTie.lean); close each card by the builder's one call (the guide's Derived/Test/ToyasCard.lean, 'card_holds'). Laid BY PROGRAM, IN A SANDBOX (cutbox-door.mjs). By AI agents, Wed Nov 11 2026. No macro, syntax, notation, axiom, sorry.
-/
import Derived.Test.YtjgaokcplofimaaDoorRows
import GoSem.ClaimSeven
namespace Go.Proofs.YtjgaokcplofimaaDoor
namespace Rows

/-- THE TIED CARD OF 'inspeximuslaw18.ExportOwn'. -/
def exportOwnCard : Claim7 := { stood := { row := exportOwnRow, standIns := [], harness := (true, "401c7f0eba78895fdb559c398c5a2c8a5ba311b5d0a34e46402e0cab782e9ed7"), looks := true }, kinds := [], alts := [], laidByText := true, laidKinds := [.data, .data], laidTests := true, laidLooks := .later }
def ExportOwnCardSaid : Prop := Claim7.holds Tryd.pinned (.plain (OpenSpec.ofChange exportOwnSpec)) exportOwnCard

/-- THE TIED CARD OF 'inspeximuslaw18.ExportAll'. -/
def exportAllCard : Claim7 := { stood := { row := exportAllRow, standIns := [], harness := (true, "401c7f0eba78895fdb559c398c5a2c8a5ba311b5d0a34e46402e0cab782e9ed7"), looks := true }, kinds := [], alts := [], laidByText := true, laidKinds := [.data, .data], laidTests := true, laidLooks := .later }
def ExportAllCardSaid : Prop := Claim7.holds Tryd.pinned (.plain (OpenSpec.ofChange exportAllSpec)) exportAllCard

/-- THE TIED CARD OF 'inspeximuslaw18.ExportSagas'. -/
def exportSagasCard : Claim7 := { stood := { row := exportSagasRow, standIns := [], harness := (true, "401c7f0eba78895fdb559c398c5a2c8a5ba311b5d0a34e46402e0cab782e9ed7"), looks := true }, kinds := [], alts := [], laidByText := true, laidKinds := [.data, .data], laidTests := true, laidLooks := .later }
def ExportSagasCardSaid : Prop := Claim7.holds Tryd.pinned (.plain (OpenSpec.ofChange exportSagasSpec)) exportSagasCard

/-- THE TIED CARD OF 'inspeximuslaw18.ExportGone'. -/
def exportGoneCard : Claim7 := { stood := { row := exportGoneRow, standIns := [], harness := (true, "401c7f0eba78895fdb559c398c5a2c8a5ba311b5d0a34e46402e0cab782e9ed7"), looks := true }, kinds := [], alts := [], laidByText := true, laidKinds := [.data, .data], laidTests := true, laidLooks := .later }
def ExportGoneCardSaid : Prop := Claim7.holds Tryd.pinned (.plain (OpenSpec.ofChange exportGoneSpec)) exportGoneCard

/-- THE TIED CARD OF 'inspeximuslaw18.ExportPaths'. -/
def exportPathsCard : Claim7 := { stood := { row := exportPathsRow, standIns := [], harness := (true, "401c7f0eba78895fdb559c398c5a2c8a5ba311b5d0a34e46402e0cab782e9ed7"), looks := true }, kinds := [], alts := [], laidByText := true, laidKinds := [.data, .data], laidTests := true, laidLooks := .later }
def ExportPathsCardSaid : Prop := Claim7.holds Tryd.pinned (.plain (OpenSpec.ofChange exportPathsSpec)) exportPathsCard

/-- THE SECOND FORM's CARD OF 'inspeximuslaw18.ExportOwn'. -/
def exportOwnUptoCard : Claim7 := { stood := { row := exportOwnUptoRow, standIns := [], harness := (true, "401c7f0eba78895fdb559c398c5a2c8a5ba311b5d0a34e46402e0cab782e9ed7"), looks := true }, kinds := [], alts := [], laidByText := true, laidKinds := [.data, .data], laidTests := true, laidLooks := .later }
def ExportOwnUptoCardSaid : Prop := Claim7.holds Tryd.pinned (.plain (OpenSpec.upto exportOwnSpec)) exportOwnUptoCard

/-- THE SECOND FORM's CARD OF 'inspeximuslaw18.ExportAll'. -/
def exportAllUptoCard : Claim7 := { stood := { row := exportAllUptoRow, standIns := [], harness := (true, "401c7f0eba78895fdb559c398c5a2c8a5ba311b5d0a34e46402e0cab782e9ed7"), looks := true }, kinds := [], alts := [], laidByText := true, laidKinds := [.data, .data], laidTests := true, laidLooks := .later }
def ExportAllUptoCardSaid : Prop := Claim7.holds Tryd.pinned (.plain (OpenSpec.upto exportAllSpec)) exportAllUptoCard

/-- THE SECOND FORM's CARD OF 'inspeximuslaw18.ExportSagas'. -/
def exportSagasUptoCard : Claim7 := { stood := { row := exportSagasUptoRow, standIns := [], harness := (true, "401c7f0eba78895fdb559c398c5a2c8a5ba311b5d0a34e46402e0cab782e9ed7"), looks := true }, kinds := [], alts := [], laidByText := true, laidKinds := [.data, .data], laidTests := true, laidLooks := .later }
def ExportSagasUptoCardSaid : Prop := Claim7.holds Tryd.pinned (.plain (OpenSpec.upto exportSagasSpec)) exportSagasUptoCard

/-- THE SECOND FORM's CARD OF 'inspeximuslaw18.ExportGone'. -/
def exportGoneUptoCard : Claim7 := { stood := { row := exportGoneUptoRow, standIns := [], harness := (true, "401c7f0eba78895fdb559c398c5a2c8a5ba311b5d0a34e46402e0cab782e9ed7"), looks := true }, kinds := [], alts := [], laidByText := true, laidKinds := [.data, .data], laidTests := true, laidLooks := .later }
def ExportGoneUptoCardSaid : Prop := Claim7.holds Tryd.pinned (.plain (OpenSpec.upto exportGoneSpec)) exportGoneUptoCard

/-- THE SECOND FORM's CARD OF 'inspeximuslaw18.ExportPaths'. -/
def exportPathsUptoCard : Claim7 := { stood := { row := exportPathsUptoRow, standIns := [], harness := (true, "401c7f0eba78895fdb559c398c5a2c8a5ba311b5d0a34e46402e0cab782e9ed7"), looks := true }, kinds := [], alts := [], laidByText := true, laidKinds := [.data, .data], laidTests := true, laidLooks := .later }
def ExportPathsUptoCardSaid : Prop := Claim7.holds Tryd.pinned (.plain (OpenSpec.upto exportPathsSpec)) exportPathsUptoCard
end Rows
end Go.Proofs.YtjgaokcplofimaaDoor
