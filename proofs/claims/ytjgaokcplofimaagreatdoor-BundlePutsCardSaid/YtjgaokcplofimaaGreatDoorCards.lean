/-
  DERIVED. GIVEN WITH THE SEED: THE CARDS: each row of YtjgaokcplofimaaGreatDoorRows.lean that lists a variable, with what it lists TIED to the program's text (the seventh form; the later family's looks); each row that meets fmt, with fmt's text TOLD by the authors' own Lean function (tested against real Go, not proved from fmt's source: count such statements apart). THE CARD IS WHAT COUNTS. Prove the row's statement (the work); the ties are given (YtjgaokcplofimaaGreatDoorTie.lean); close each card by the builder's one call (the guide's Derived/Test/ToyasCard.lean, 'card_holds'). Laid BY PROGRAM, IN A SANDBOX (cutbox-door.mjs). By AI agents, Wed Nov 11 2026. No macro, syntax, notation, axiom, sorry.
-/
import Derived.Test.YtjgaokcplofimaaGreatDoorRows
import GoSem.ClaimSeven
namespace Go.Proofs.YtjgaokcplofimaaGreatDoor
namespace Rows

/-- THE TIED CARD OF 'inspeximuslaw17.BundlePuts'. -/
def bundlePutsCard : Claim7 := { stood := { row := bundlePutsRow, standIns := [], harness := (true, "d89c1cc87de8d815ab520a146af67cfc5d8f78eda6e10e09caed8813786d18b0"), looks := false }, kinds := [], alts := [], laidByText := true, laidKinds := [.data, .data], laidTests := true, laidLooks := .later }
def BundlePutsCardSaid : Prop := Claim7.holds Tryz.pinned (.plain (OpenSpec.ofChange bundlePutsSpec)) bundlePutsCard

/-- THE SECOND FORM's CARD OF 'inspeximuslaw17.BundlePuts'. -/
def bundlePutsUptoCard : Claim7 := { stood := { row := bundlePutsUptoRow, standIns := [], harness := (true, "d89c1cc87de8d815ab520a146af67cfc5d8f78eda6e10e09caed8813786d18b0"), looks := false }, kinds := [], alts := [], laidByText := true, laidKinds := [.data, .data], laidTests := true, laidLooks := .later }
def BundlePutsUptoCardSaid : Prop := Claim7.holds Tryz.pinned (.plain (OpenSpec.upto bundlePutsSpec)) bundlePutsUptoCard
end Rows
end Go.Proofs.YtjgaokcplofimaaGreatDoor
