/-
  DERIVED. GIVEN WITH THE SEED: THE CARDS: each row of YtlcnliiampfigaaDoorRows.lean that lists a variable, with what it lists TIED to the program's text (the seventh form; the later family's looks); each row that meets fmt, with fmt's text TOLD by the authors' own Lean function (tested against real Go, not proved from fmt's source: count such statements apart). THE CARD IS WHAT COUNTS. Prove the row's statement (the work); the ties are given (YtlcnliiampfigaaDoorTie.lean); close each card by the builder's one call (the guide's Derived/Test/ToyasCard.lean, 'card_holds'). Laid BY PROGRAM, IN A SANDBOX (cutbox-door.mjs). By AI agents, Wed Nov 11 2026. No macro, syntax, notation, axiom, sorry.
-/
import Derived.Test.YtlcnliiampfigaaDoorRows
import GoSem.ClaimSeven
namespace Go.Proofs.YtlcnliiampfigaaDoor
namespace Rows

/-- THE TIED CARD OF 'inspeximuslaw04.RecRight'. -/
def recRightCard : Claim7 := { stood := { row := recRightRow, standIns := [], harness := (true, "93746cf52fd26265378a1f28ecfb17904e907d7caa7e279febbad82af818cc7f"), looks := false }, kinds := [], alts := [], laidByText := true, laidKinds := [.data, .data], laidTests := true, laidLooks := .later }
def RecRightCardSaid : Prop := Claim7.holds Tryd.pinned (.plain (OpenSpec.ofChange recRightSpec)) recRightCard

/-- THE TIED CARD OF 'inspeximuslaw04.RecPuts'. -/
def recPutsCard : Claim7 := { stood := { row := recPutsRow, standIns := [], harness := (true, "93746cf52fd26265378a1f28ecfb17904e907d7caa7e279febbad82af818cc7f"), looks := false }, kinds := [], alts := [], laidByText := true, laidKinds := [.data, .data], laidTests := true, laidLooks := .later }
def RecPutsCardSaid : Prop := Claim7.holds Tryd.pinned (.plain (OpenSpec.ofChange recPutsSpec)) recPutsCard

/-- THE TIED CARD OF 'inspeximuslaw04.RecOne'. -/
def recOneCard : Claim7 := { stood := { row := recOneRow, standIns := [], harness := (true, "93746cf52fd26265378a1f28ecfb17904e907d7caa7e279febbad82af818cc7f"), looks := false }, kinds := [], alts := [], laidByText := true, laidKinds := [.data, .data], laidTests := true, laidLooks := .later }
def RecOneCardSaid : Prop := Claim7.holds Tryd.pinned (.plain (OpenSpec.ofChange recOneSpec)) recOneCard

/-- THE TIED CARD OF 'inspeximuslaw04.RecKinds'. -/
def recKindsCard : Claim7 := { stood := { row := recKindsRow, standIns := [], harness := (true, "93746cf52fd26265378a1f28ecfb17904e907d7caa7e279febbad82af818cc7f"), looks := false }, kinds := [], alts := [], laidByText := true, laidKinds := [.data, .data], laidTests := true, laidLooks := .later }
def RecKindsCardSaid : Prop := Claim7.holds Tryd.pinned (.plain (OpenSpec.ofChange recKindsSpec)) recKindsCard

/-- THE TIED CARD OF 'inspeximuslaw04.RecCom'. -/
def recComCard : Claim7 := { stood := { row := recComRow, standIns := [], harness := (true, "93746cf52fd26265378a1f28ecfb17904e907d7caa7e279febbad82af818cc7f"), looks := false }, kinds := [], alts := [], laidByText := true, laidKinds := [.data, .data], laidTests := true, laidLooks := .later }
def RecComCardSaid : Prop := Claim7.holds Tryd.pinned (.plain (OpenSpec.ofChange recComSpec)) recComCard

/-- THE TIED CARD OF 'inspeximuslaw04.RecBack'. -/
def recBackCard : Claim7 := { stood := { row := recBackRow, standIns := [], harness := (true, "93746cf52fd26265378a1f28ecfb17904e907d7caa7e279febbad82af818cc7f"), looks := false }, kinds := [], alts := [], laidByText := true, laidKinds := [.data, .data], laidTests := true, laidLooks := .later }
def RecBackCardSaid : Prop := Claim7.holds Tryd.pinned (.plain (OpenSpec.ofChange recBackSpec)) recBackCard

/-- THE SECOND FORM's CARD OF 'inspeximuslaw04.RecRight'. -/
def recRightUptoCard : Claim7 := { stood := { row := recRightUptoRow, standIns := [], harness := (true, "93746cf52fd26265378a1f28ecfb17904e907d7caa7e279febbad82af818cc7f"), looks := false }, kinds := [], alts := [], laidByText := true, laidKinds := [.data, .data], laidTests := true, laidLooks := .later }
def RecRightUptoCardSaid : Prop := Claim7.holds Tryd.pinned (.plain (OpenSpec.upto recRightSpec)) recRightUptoCard

/-- THE SECOND FORM's CARD OF 'inspeximuslaw04.RecPuts'. -/
def recPutsUptoCard : Claim7 := { stood := { row := recPutsUptoRow, standIns := [], harness := (true, "93746cf52fd26265378a1f28ecfb17904e907d7caa7e279febbad82af818cc7f"), looks := false }, kinds := [], alts := [], laidByText := true, laidKinds := [.data, .data], laidTests := true, laidLooks := .later }
def RecPutsUptoCardSaid : Prop := Claim7.holds Tryd.pinned (.plain (OpenSpec.upto recPutsSpec)) recPutsUptoCard

/-- THE SECOND FORM's CARD OF 'inspeximuslaw04.RecOne'. -/
def recOneUptoCard : Claim7 := { stood := { row := recOneUptoRow, standIns := [], harness := (true, "93746cf52fd26265378a1f28ecfb17904e907d7caa7e279febbad82af818cc7f"), looks := false }, kinds := [], alts := [], laidByText := true, laidKinds := [.data, .data], laidTests := true, laidLooks := .later }
def RecOneUptoCardSaid : Prop := Claim7.holds Tryd.pinned (.plain (OpenSpec.upto recOneSpec)) recOneUptoCard

/-- THE SECOND FORM's CARD OF 'inspeximuslaw04.RecKinds'. -/
def recKindsUptoCard : Claim7 := { stood := { row := recKindsUptoRow, standIns := [], harness := (true, "93746cf52fd26265378a1f28ecfb17904e907d7caa7e279febbad82af818cc7f"), looks := false }, kinds := [], alts := [], laidByText := true, laidKinds := [.data, .data], laidTests := true, laidLooks := .later }
def RecKindsUptoCardSaid : Prop := Claim7.holds Tryd.pinned (.plain (OpenSpec.upto recKindsSpec)) recKindsUptoCard

/-- THE SECOND FORM's CARD OF 'inspeximuslaw04.RecCom'. -/
def recComUptoCard : Claim7 := { stood := { row := recComUptoRow, standIns := [], harness := (true, "93746cf52fd26265378a1f28ecfb17904e907d7caa7e279febbad82af818cc7f"), looks := false }, kinds := [], alts := [], laidByText := true, laidKinds := [.data, .data], laidTests := true, laidLooks := .later }
def RecComUptoCardSaid : Prop := Claim7.holds Tryd.pinned (.plain (OpenSpec.upto recComSpec)) recComUptoCard

/-- THE SECOND FORM's CARD OF 'inspeximuslaw04.RecBack'. -/
def recBackUptoCard : Claim7 := { stood := { row := recBackUptoRow, standIns := [], harness := (true, "93746cf52fd26265378a1f28ecfb17904e907d7caa7e279febbad82af818cc7f"), looks := false }, kinds := [], alts := [], laidByText := true, laidKinds := [.data, .data], laidTests := true, laidLooks := .later }
def RecBackUptoCardSaid : Prop := Claim7.holds Tryd.pinned (.plain (OpenSpec.upto recBackSpec)) recBackUptoCard
end Rows
end Go.Proofs.YtlcnliiampfigaaDoor
