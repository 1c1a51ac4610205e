/-
  DERIVED. GIVEN WITH THE SEED: THE CARDS: each row of YthnfokfankaenaaDoorRows.lean that lists a variable, with what it lists TIED to the program's text (the seventh form; the later family's looks); each row that meets fmt, with fmt's text TOLD by the authors' own Lean function (tested against real Go, not proved from fmt's source: count such statements apart). THE CARD IS WHAT COUNTS. Prove the row's statement (the work); the ties are given (YthnfokfankaenaaDoorTie.lean); close each card by the builder's one call (the guide's Derived/Test/ToyasCard.lean, 'card_holds'). Laid BY PROGRAM, IN A SANDBOX (cutbox-door.mjs). By AI agents, Wed Nov 11 2026. No macro, syntax, notation, axiom, sorry.
-/
import Derived.Test.YthnfokfankaenaaDoorRows
import GoSem.ClaimSeven
namespace Go.Proofs.YthnfokfankaenaaDoor
namespace Rows

/-- THE TIED CARD OF 'inspeximuslaw09.LogActs'. -/
def logActsCard : Claim7 := { stood := { row := logActsRow, standIns := [], harness := (true, "b7c3601736d21fd416bd6817485523f638b7d2b808dc9f20fa66d54e4ab22f40"), looks := false }, kinds := [], alts := [], laidByText := true, laidKinds := [.data, .data], laidTests := true, laidLooks := .later }
def LogActsCardSaid : Prop := Claim7.holds Tryd.pinned (.plain (OpenSpec.ofChange logActsSpec)) logActsCard

/-- THE TIED CARD OF 'inspeximuslaw09.LogCrash'. -/
def logCrashCard : Claim7 := { stood := { row := logCrashRow, standIns := [], harness := (true, "b7c3601736d21fd416bd6817485523f638b7d2b808dc9f20fa66d54e4ab22f40"), looks := false }, kinds := [], alts := [], laidByText := true, laidKinds := [.data, .data], laidTests := true, laidLooks := .later }
def LogCrashCardSaid : Prop := Claim7.holds Tryd.pinned (.plain (OpenSpec.ofChange logCrashSpec)) logCrashCard

/-- THE TIED CARD OF 'inspeximuslaw09.LogAgain'. -/
def logAgainCard : Claim7 := { stood := { row := logAgainRow, standIns := [], harness := (true, "b7c3601736d21fd416bd6817485523f638b7d2b808dc9f20fa66d54e4ab22f40"), looks := false }, kinds := [], alts := [], laidByText := true, laidKinds := [.data, .data], laidTests := true, laidLooks := .later }
def LogAgainCardSaid : Prop := Claim7.holds Tryd.pinned (.plain (OpenSpec.ofChange logAgainSpec)) logAgainCard

/-- THE TIED CARD OF 'inspeximuslaw09.LogChained'. -/
def logChainedCard : Claim7 := { stood := { row := logChainedRow, standIns := [], harness := (true, "b7c3601736d21fd416bd6817485523f638b7d2b808dc9f20fa66d54e4ab22f40"), looks := false }, kinds := [], alts := [], laidByText := true, laidKinds := [.data, .data], laidTests := true, laidLooks := .later }
def LogChainedCardSaid : Prop := Claim7.holds Tryd.pinned (.plain (OpenSpec.ofChange logChainedSpec)) logChainedCard

/-- THE TIED CARD OF 'inspeximuslaw09.LogTorn'. -/
def logTornCard : Claim7 := { stood := { row := logTornRow, standIns := [], harness := (true, "b7c3601736d21fd416bd6817485523f638b7d2b808dc9f20fa66d54e4ab22f40"), looks := false }, kinds := [], alts := [], laidByText := true, laidKinds := [.data, .data], laidTests := true, laidLooks := .later }
def LogTornCardSaid : Prop := Claim7.holds Tryd.pinned (.plain (OpenSpec.ofChange logTornSpec)) logTornCard

/-- THE TIED CARD OF 'inspeximuslaw09.LogSize'. -/
def logSizeCard : Claim7 := { stood := { row := logSizeRow, standIns := [], harness := (true, "b7c3601736d21fd416bd6817485523f638b7d2b808dc9f20fa66d54e4ab22f40"), looks := false }, kinds := [], alts := [], laidByText := true, laidKinds := [.data, .data], laidTests := true, laidLooks := .later }
def LogSizeCardSaid : Prop := Claim7.holds Tryd.pinned (.plain (OpenSpec.ofChange logSizeSpec)) logSizeCard

/-- THE SECOND FORM's CARD OF 'inspeximuslaw09.LogActs'. -/
def logActsUptoCard : Claim7 := { stood := { row := logActsUptoRow, standIns := [], harness := (true, "b7c3601736d21fd416bd6817485523f638b7d2b808dc9f20fa66d54e4ab22f40"), looks := false }, kinds := [], alts := [], laidByText := true, laidKinds := [.data, .data], laidTests := true, laidLooks := .later }
def LogActsUptoCardSaid : Prop := Claim7.holds Tryd.pinned (.plain (OpenSpec.upto logActsSpec)) logActsUptoCard

/-- THE SECOND FORM's CARD OF 'inspeximuslaw09.LogCrash'. -/
def logCrashUptoCard : Claim7 := { stood := { row := logCrashUptoRow, standIns := [], harness := (true, "b7c3601736d21fd416bd6817485523f638b7d2b808dc9f20fa66d54e4ab22f40"), looks := false }, kinds := [], alts := [], laidByText := true, laidKinds := [.data, .data], laidTests := true, laidLooks := .later }
def LogCrashUptoCardSaid : Prop := Claim7.holds Tryd.pinned (.plain (OpenSpec.upto logCrashSpec)) logCrashUptoCard

/-- THE SECOND FORM's CARD OF 'inspeximuslaw09.LogAgain'. -/
def logAgainUptoCard : Claim7 := { stood := { row := logAgainUptoRow, standIns := [], harness := (true, "b7c3601736d21fd416bd6817485523f638b7d2b808dc9f20fa66d54e4ab22f40"), looks := false }, kinds := [], alts := [], laidByText := true, laidKinds := [.data, .data], laidTests := true, laidLooks := .later }
def LogAgainUptoCardSaid : Prop := Claim7.holds Tryd.pinned (.plain (OpenSpec.upto logAgainSpec)) logAgainUptoCard

/-- THE SECOND FORM's CARD OF 'inspeximuslaw09.LogChained'. -/
def logChainedUptoCard : Claim7 := { stood := { row := logChainedUptoRow, standIns := [], harness := (true, "b7c3601736d21fd416bd6817485523f638b7d2b808dc9f20fa66d54e4ab22f40"), looks := false }, kinds := [], alts := [], laidByText := true, laidKinds := [.data, .data], laidTests := true, laidLooks := .later }
def LogChainedUptoCardSaid : Prop := Claim7.holds Tryd.pinned (.plain (OpenSpec.upto logChainedSpec)) logChainedUptoCard

/-- THE SECOND FORM's CARD OF 'inspeximuslaw09.LogTorn'. -/
def logTornUptoCard : Claim7 := { stood := { row := logTornUptoRow, standIns := [], harness := (true, "b7c3601736d21fd416bd6817485523f638b7d2b808dc9f20fa66d54e4ab22f40"), looks := false }, kinds := [], alts := [], laidByText := true, laidKinds := [.data, .data], laidTests := true, laidLooks := .later }
def LogTornUptoCardSaid : Prop := Claim7.holds Tryd.pinned (.plain (OpenSpec.upto logTornSpec)) logTornUptoCard

/-- THE SECOND FORM's CARD OF 'inspeximuslaw09.LogSize'. -/
def logSizeUptoCard : Claim7 := { stood := { row := logSizeUptoRow, standIns := [], harness := (true, "b7c3601736d21fd416bd6817485523f638b7d2b808dc9f20fa66d54e4ab22f40"), looks := false }, kinds := [], alts := [], laidByText := true, laidKinds := [.data, .data], laidTests := true, laidLooks := .later }
def LogSizeUptoCardSaid : Prop := Claim7.holds Tryd.pinned (.plain (OpenSpec.upto logSizeSpec)) logSizeUptoCard
end Rows
end Go.Proofs.YthnfokfankaenaaDoor
