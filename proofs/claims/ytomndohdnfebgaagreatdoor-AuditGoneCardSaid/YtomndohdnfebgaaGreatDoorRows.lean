/-
  NARROWER THAN 'FOR EVERY INPUT', by the rows' own cells (each row's printed sentence says how): AuditSame: laid · AuditGone: laid · AuditTrusts: laid · AuditFewer: laid · AuditSmall: laid · AuditMeans: laid · AuditAlone: laid.
  DERIVED. THE GIVEN ROWS OF THIS SEAT. 7 by the template 'for every input the law returns true; each argument reads behind the call as it read before'; 0 by the template 'total and deterministic' (their statements: YtomndohdnfebgaaGreatDoorTotals.lean).
  GIVEN WITH THE SEED: the statements are not yours to turn. If you find one false, say at which input.
  Laid BY PROGRAM, IN A SANDBOX (cutbox-rows.mjs): the forced cells as the released guide's own fill.sh prints them over the translation c05febcceb3013d6… (all of the seat's roots in one cut). By AI agents, Wed Nov 11 2026. No macro, syntax, notation, axiom, sorry.
-/
import Derived.Test.YtomndohdnfebgaaGreatDoorChecked
import GoSem.Claim
import GoSem.ClaimJoined
import GoSem.ClaimMapViews
import Derived.JoinedTies
import Derived.KernelRfl
namespace Go.Proofs.YtomndohdnfebgaaGreatDoor
/- THE CELL 'sum', in the pinned program and in every row, IS THE sha256 OF THE DUMP (.gsa) THAT YtomndohdnfebgaaGreatDoorProg.lean LOADS. Nothing in Lean hashes anything: it is a label: what it is worth is what the hold of that sum in a sandbox is worth. -/
noncomputable def Tryz.pinned : Pinned := { name := "ytomndohdnfebgaagreatdoor", sum := "c05febcceb3013d6afeb39bce71541bbe48ec6e43857365fd51b576d2874e7b4", checked := Tryz.checked }
namespace Rows
def none {H : Type} : Left H := { results := [], args := [] }

/- WHAT THE LISTED PACKAGE-LEVEL VARIABLES READ AS WHEN THE CALL BEGINS. Each datum BY PROGRAM (the guide's laid-datum.mjs) off the statement by which the dump's own 'gosem.cut.vars' lays the variable. In a bare row this is a premise. The card (YtomndohdnfebgaaGreatDoorCards.lean) ties it to the program's text. -/
def laid_inspeximus_api_K {H : Type} : DataW H := .agg [.lit (.int .u32 1116352408), .lit (.int .u32 1899447441), .lit (.int .u32 3049323471), .lit (.int .u32 3921009573), .lit (.int .u32 961987163), .lit (.int .u32 1508970993), .lit (.int .u32 2453635748), .lit (.int .u32 2870763221), .lit (.int .u32 3624381080), .lit (.int .u32 310598401), .lit (.int .u32 607225278), .lit (.int .u32 1426881987), .lit (.int .u32 1925078388), .lit (.int .u32 2162078206), .lit (.int .u32 2614888103), .lit (.int .u32 3248222580), .lit (.int .u32 3835390401), .lit (.int .u32 4022224774), .lit (.int .u32 264347078), .lit (.int .u32 604807628), .lit (.int .u32 770255983), .lit (.int .u32 1249150122), .lit (.int .u32 1555081692), .lit (.int .u32 1996064986), .lit (.int .u32 2554220882), .lit (.int .u32 2821834349), .lit (.int .u32 2952996808), .lit (.int .u32 3210313671), .lit (.int .u32 3336571891), .lit (.int .u32 3584528711), .lit (.int .u32 113926993), .lit (.int .u32 338241895), .lit (.int .u32 666307205), .lit (.int .u32 773529912), .lit (.int .u32 1294757372), .lit (.int .u32 1396182291), .lit (.int .u32 1695183700), .lit (.int .u32 1986661051), .lit (.int .u32 2177026350), .lit (.int .u32 2456956037), .lit (.int .u32 2730485921), .lit (.int .u32 2820302411), .lit (.int .u32 3259730800), .lit (.int .u32 3345764771), .lit (.int .u32 3516065817), .lit (.int .u32 3600352804), .lit (.int .u32 4094571909), .lit (.int .u32 275423344), .lit (.int .u32 430227734), .lit (.int .u32 506948616), .lit (.int .u32 659060556), .lit (.int .u32 883997877), .lit (.int .u32 958139571), .lit (.int .u32 1322822218), .lit (.int .u32 1537002063), .lit (.int .u32 1747873779), .lit (.int .u32 1955562222), .lit (.int .u32 2024104815), .lit (.int .u32 2227730452), .lit (.int .u32 2361852424), .lit (.int .u32 2428436474), .lit (.int .u32 2756734187), .lit (.int .u32 3204031479), .lit (.int .u32 3329325298)]
def laid_inspeximus_api_First {H : Type} : DataW H := .agg [.lit (.int .u32 1779033703), .lit (.int .u32 3144134277), .lit (.int .u32 1013904242), .lit (.int .u32 2773480762), .lit (.int .u32 1359893119), .lit (.int .u32 2600822924), .lit (.int .u32 528734635), .lit (.int .u32 1541459225)]

/-- 'inspeximuslaw19.AuditSame': WHATEVER THE INPUT: true; the input reads as it did. -/
def auditSameSpec : ChangeSpec := { name := "auditSame", fn := fun _ => fun
  | [d1, d2, d3] => { results := [.lit (.bool true)], args := [d1, d2, d3] }
  | _ => none }
def auditSameRow : OpenClaim := { program := "ytomndohdnfebgaagreatdoor", sum := "c05febcceb3013d6afeb39bce71541bbe48ec6e43857365fd51b576d2874e7b4", func := "inspeximus/inspeximuslaw19.AuditSame", spec := "auditSame", unfollowed := true, recurses := true, named := ["inspeximus/api.First", "inspeximus/api.K"], apart := false, laid := [("inspeximus/api.K", laid_inspeximus_api_K), ("inspeximus/api.First", laid_inspeximus_api_First)] }
def AuditSameSaid : Prop := auditSameRow.holds Tryz.pinned (OpenSpec.ofChange auditSameSpec)

/-- ITS FALSE NEIGHBOUR: 'it returns false'. Refute it at one input. -/
def auditSameWrong : ChangeSpec := { name := "auditSame", fn := fun _ => fun
  | [d1, d2, d3] => { results := [.lit (.bool false)], args := [d1, d2, d3] }
  | _ => none }
def AuditSameWrongFalsely : Prop := auditSameRow.holds Tryz.pinned (OpenSpec.ofChange auditSameWrong)

/-- 'inspeximuslaw19.AuditGone': WHATEVER THE INPUT: true; the input reads as it did. -/
def auditGoneSpec : ChangeSpec := { name := "auditGone", fn := fun _ => fun
  | [d1, d2, d3, d4, d5] => { results := [.lit (.bool true)], args := [d1, d2, d3, d4, d5] }
  | _ => none }
def auditGoneRow : OpenClaim := { program := "ytomndohdnfebgaagreatdoor", sum := "c05febcceb3013d6afeb39bce71541bbe48ec6e43857365fd51b576d2874e7b4", func := "inspeximus/inspeximuslaw19.AuditGone", spec := "auditGone", unfollowed := true, recurses := true, named := ["inspeximus/api.First", "inspeximus/api.K"], apart := false, laid := [("inspeximus/api.K", laid_inspeximus_api_K), ("inspeximus/api.First", laid_inspeximus_api_First)] }
def AuditGoneSaid : Prop := auditGoneRow.holds Tryz.pinned (OpenSpec.ofChange auditGoneSpec)

/-- ITS FALSE NEIGHBOUR: 'it returns false'. Refute it at one input. -/
def auditGoneWrong : ChangeSpec := { name := "auditGone", fn := fun _ => fun
  | [d1, d2, d3, d4, d5] => { results := [.lit (.bool false)], args := [d1, d2, d3, d4, d5] }
  | _ => none }
def AuditGoneWrongFalsely : Prop := auditGoneRow.holds Tryz.pinned (OpenSpec.ofChange auditGoneWrong)

/-- 'inspeximuslaw19.AuditTrusts': WHATEVER THE INPUT: true; the input reads as it did. -/
def auditTrustsSpec : ChangeSpec := { name := "auditTrusts", fn := fun _ => fun
  | [d1, d2, d3, d4, d5, d6] => { results := [.lit (.bool true)], args := [d1, d2, d3, d4, d5, d6] }
  | _ => none }
def auditTrustsRow : OpenClaim := { program := "ytomndohdnfebgaagreatdoor", sum := "c05febcceb3013d6afeb39bce71541bbe48ec6e43857365fd51b576d2874e7b4", func := "inspeximus/inspeximuslaw19.AuditTrusts", spec := "auditTrusts", unfollowed := true, recurses := true, named := ["inspeximus/api.First", "inspeximus/api.K"], apart := false, laid := [("inspeximus/api.K", laid_inspeximus_api_K), ("inspeximus/api.First", laid_inspeximus_api_First)] }
def AuditTrustsSaid : Prop := auditTrustsRow.holds Tryz.pinned (OpenSpec.ofChange auditTrustsSpec)

/-- ITS FALSE NEIGHBOUR: 'it returns false'. Refute it at one input. -/
def auditTrustsWrong : ChangeSpec := { name := "auditTrusts", fn := fun _ => fun
  | [d1, d2, d3, d4, d5, d6] => { results := [.lit (.bool false)], args := [d1, d2, d3, d4, d5, d6] }
  | _ => none }
def AuditTrustsWrongFalsely : Prop := auditTrustsRow.holds Tryz.pinned (OpenSpec.ofChange auditTrustsWrong)

/-- 'inspeximuslaw19.AuditFewer': WHATEVER THE INPUT: true; the input reads as it did. -/
def auditFewerSpec : ChangeSpec := { name := "auditFewer", fn := fun _ => fun
  | [d1, d2, d3, d4, d5] => { results := [.lit (.bool true)], args := [d1, d2, d3, d4, d5] }
  | _ => none }
def auditFewerRow : OpenClaim := { program := "ytomndohdnfebgaagreatdoor", sum := "c05febcceb3013d6afeb39bce71541bbe48ec6e43857365fd51b576d2874e7b4", func := "inspeximus/inspeximuslaw19.AuditFewer", spec := "auditFewer", unfollowed := true, recurses := true, named := ["inspeximus/api.First", "inspeximus/api.K"], apart := false, laid := [("inspeximus/api.K", laid_inspeximus_api_K), ("inspeximus/api.First", laid_inspeximus_api_First)] }
def AuditFewerSaid : Prop := auditFewerRow.holds Tryz.pinned (OpenSpec.ofChange auditFewerSpec)

/-- ITS FALSE NEIGHBOUR: 'it returns false'. Refute it at one input. -/
def auditFewerWrong : ChangeSpec := { name := "auditFewer", fn := fun _ => fun
  | [d1, d2, d3, d4, d5] => { results := [.lit (.bool false)], args := [d1, d2, d3, d4, d5] }
  | _ => none }
def AuditFewerWrongFalsely : Prop := auditFewerRow.holds Tryz.pinned (OpenSpec.ofChange auditFewerWrong)

/-- 'inspeximuslaw19.AuditSmall': WHATEVER THE INPUT: true; the input reads as it did. -/
def auditSmallSpec : ChangeSpec := { name := "auditSmall", fn := fun _ => fun
  | [d1, d2, d3, d4, d5] => { results := [.lit (.bool true)], args := [d1, d2, d3, d4, d5] }
  | _ => none }
def auditSmallRow : OpenClaim := { program := "ytomndohdnfebgaagreatdoor", sum := "c05febcceb3013d6afeb39bce71541bbe48ec6e43857365fd51b576d2874e7b4", func := "inspeximus/inspeximuslaw19.AuditSmall", spec := "auditSmall", unfollowed := true, recurses := true, named := ["inspeximus/api.First", "inspeximus/api.K"], apart := false, laid := [("inspeximus/api.K", laid_inspeximus_api_K), ("inspeximus/api.First", laid_inspeximus_api_First)] }
def AuditSmallSaid : Prop := auditSmallRow.holds Tryz.pinned (OpenSpec.ofChange auditSmallSpec)

/-- ITS FALSE NEIGHBOUR: 'it returns false'. Refute it at one input. -/
def auditSmallWrong : ChangeSpec := { name := "auditSmall", fn := fun _ => fun
  | [d1, d2, d3, d4, d5] => { results := [.lit (.bool false)], args := [d1, d2, d3, d4, d5] }
  | _ => none }
def AuditSmallWrongFalsely : Prop := auditSmallRow.holds Tryz.pinned (OpenSpec.ofChange auditSmallWrong)

/-- 'inspeximuslaw19.AuditMeans': WHATEVER THE INPUT: true; the input reads as it did. -/
def auditMeansSpec : ChangeSpec := { name := "auditMeans", fn := fun _ => fun
  | [d1, d2, d3, d4] => { results := [.lit (.bool true)], args := [d1, d2, d3, d4] }
  | _ => none }
def auditMeansRow : OpenClaim := { program := "ytomndohdnfebgaagreatdoor", sum := "c05febcceb3013d6afeb39bce71541bbe48ec6e43857365fd51b576d2874e7b4", func := "inspeximus/inspeximuslaw19.AuditMeans", spec := "auditMeans", unfollowed := true, recurses := true, named := ["inspeximus/api.First", "inspeximus/api.K"], apart := false, laid := [("inspeximus/api.K", laid_inspeximus_api_K), ("inspeximus/api.First", laid_inspeximus_api_First)] }
def AuditMeansSaid : Prop := auditMeansRow.holds Tryz.pinned (OpenSpec.ofChange auditMeansSpec)

/-- ITS FALSE NEIGHBOUR: 'it returns false'. Refute it at one input. -/
def auditMeansWrong : ChangeSpec := { name := "auditMeans", fn := fun _ => fun
  | [d1, d2, d3, d4] => { results := [.lit (.bool false)], args := [d1, d2, d3, d4] }
  | _ => none }
def AuditMeansWrongFalsely : Prop := auditMeansRow.holds Tryz.pinned (OpenSpec.ofChange auditMeansWrong)

/-- 'inspeximuslaw19.AuditAlone': WHATEVER THE INPUT: true; the input reads as it did. -/
def auditAloneSpec : ChangeSpec := { name := "auditAlone", fn := fun _ => fun
  | [d1, d2, d3, d4, d5, d6] => { results := [.lit (.bool true)], args := [d1, d2, d3, d4, d5, d6] }
  | _ => none }
def auditAloneRow : OpenClaim := { program := "ytomndohdnfebgaagreatdoor", sum := "c05febcceb3013d6afeb39bce71541bbe48ec6e43857365fd51b576d2874e7b4", func := "inspeximus/inspeximuslaw19.AuditAlone", spec := "auditAlone", unfollowed := true, recurses := true, named := ["inspeximus/api.First", "inspeximus/api.K"], apart := false, laid := [("inspeximus/api.K", laid_inspeximus_api_K), ("inspeximus/api.First", laid_inspeximus_api_First)] }
def AuditAloneSaid : Prop := auditAloneRow.holds Tryz.pinned (OpenSpec.ofChange auditAloneSpec)

/-- ITS FALSE NEIGHBOUR: 'it returns false'. Refute it at one input. -/
def auditAloneWrong : ChangeSpec := { name := "auditAlone", fn := fun _ => fun
  | [d1, d2, d3, d4, d5, d6] => { results := [.lit (.bool false)], args := [d1, d2, d3, d4, d5, d6] }
  | _ => none }
def AuditAloneWrongFalsely : Prop := auditAloneRow.holds Tryz.pinned (OpenSpec.ofChange auditAloneWrong)

/- THE SECOND FORM. 'bulk': how many values and letters a reading holds, each counted each time it is reached (what is shared counts as often as it is met; a slice's spare places count too). A statement '..UptoSaid' is the law's where the arguments, and the package variables that the reading takes, are together of bulk at most 1048576: NARROWER than '..Said'. Prove '..Said' where nothing that the law and all that it calls make is longer than what came in: it says more and counts as full. Else prove '..UptoSaid'. A law counts once. -/
mutual
def uptoBulk {H : Type} : DataW H → Nat
  | .lit (.string bytes) => bytes.length + 1
  | .lit _ => 1
  | .nil => 1
  | .ptr d => uptoBulk d + 1
  | .slice elems spare => uptoBulkAll elems + uptoBulkAll spare + 1
  | .agg parts => uptoBulkAll parts + 1
  | .iface _ d => uptoBulk d + 1
  | .map entries => uptoBulkEntries entries + 1
  | .held _ => 1
def uptoBulkAll {H : Type} : List (DataW H) → Nat
  | [] => 0
  | d :: r => uptoBulk d + uptoBulkAll r
def uptoBulkEntries {H : Type} : List (Lit × DataW H) → Nat
  | [] => 0
  | x :: r => uptoBulkEntry x + uptoBulkEntries r
def uptoBulkEntry {H : Type} : Lit × DataW H → Nat
  | (.string bytes, d) => bytes.length + uptoBulk d + 1
  | (_, d) => uptoBulk d + 1
 end
def uptoSmall : (H : Type) → List (DataW H) → Bool := fun _ ds => decide (uptoBulkAll ds ≤ 1048576)
def OpenSpec.upto (s : _root_.Go.ChangeSpec) : _root_.Go.OpenSpec := { _root_.Go.OpenSpec.ofChange s with cond := some uptoSmall }

/-- 'inspeximuslaw19.AuditSame', WHERE WHAT IT READS IS OF BULK AT MOST 1048576: true; the input reads as it did. -/
def auditSameUptoRow : OpenClaim := { program := "ytomndohdnfebgaagreatdoor", sum := "c05febcceb3013d6afeb39bce71541bbe48ec6e43857365fd51b576d2874e7b4", func := "inspeximus/inspeximuslaw19.AuditSame", spec := "auditSame", unfollowed := true, recurses := true, named := ["inspeximus/api.First", "inspeximus/api.K"], apart := false, laid := [("inspeximus/api.K", laid_inspeximus_api_K), ("inspeximus/api.First", laid_inspeximus_api_First)], narrowed := true }
def AuditSameUptoSaid : Prop := auditSameUptoRow.holds Tryz.pinned (OpenSpec.upto auditSameSpec)

/-- 'inspeximuslaw19.AuditGone', WHERE WHAT IT READS IS OF BULK AT MOST 1048576: true; the input reads as it did. -/
def auditGoneUptoRow : OpenClaim := { program := "ytomndohdnfebgaagreatdoor", sum := "c05febcceb3013d6afeb39bce71541bbe48ec6e43857365fd51b576d2874e7b4", func := "inspeximus/inspeximuslaw19.AuditGone", spec := "auditGone", unfollowed := true, recurses := true, named := ["inspeximus/api.First", "inspeximus/api.K"], apart := false, laid := [("inspeximus/api.K", laid_inspeximus_api_K), ("inspeximus/api.First", laid_inspeximus_api_First)], narrowed := true }
def AuditGoneUptoSaid : Prop := auditGoneUptoRow.holds Tryz.pinned (OpenSpec.upto auditGoneSpec)

/-- 'inspeximuslaw19.AuditTrusts', WHERE WHAT IT READS IS OF BULK AT MOST 1048576: true; the input reads as it did. -/
def auditTrustsUptoRow : OpenClaim := { program := "ytomndohdnfebgaagreatdoor", sum := "c05febcceb3013d6afeb39bce71541bbe48ec6e43857365fd51b576d2874e7b4", func := "inspeximus/inspeximuslaw19.AuditTrusts", spec := "auditTrusts", unfollowed := true, recurses := true, named := ["inspeximus/api.First", "inspeximus/api.K"], apart := false, laid := [("inspeximus/api.K", laid_inspeximus_api_K), ("inspeximus/api.First", laid_inspeximus_api_First)], narrowed := true }
def AuditTrustsUptoSaid : Prop := auditTrustsUptoRow.holds Tryz.pinned (OpenSpec.upto auditTrustsSpec)

/-- 'inspeximuslaw19.AuditFewer', WHERE WHAT IT READS IS OF BULK AT MOST 1048576: true; the input reads as it did. -/
def auditFewerUptoRow : OpenClaim := { program := "ytomndohdnfebgaagreatdoor", sum := "c05febcceb3013d6afeb39bce71541bbe48ec6e43857365fd51b576d2874e7b4", func := "inspeximus/inspeximuslaw19.AuditFewer", spec := "auditFewer", unfollowed := true, recurses := true, named := ["inspeximus/api.First", "inspeximus/api.K"], apart := false, laid := [("inspeximus/api.K", laid_inspeximus_api_K), ("inspeximus/api.First", laid_inspeximus_api_First)], narrowed := true }
def AuditFewerUptoSaid : Prop := auditFewerUptoRow.holds Tryz.pinned (OpenSpec.upto auditFewerSpec)

/-- 'inspeximuslaw19.AuditSmall', WHERE WHAT IT READS IS OF BULK AT MOST 1048576: true; the input reads as it did. -/
def auditSmallUptoRow : OpenClaim := { program := "ytomndohdnfebgaagreatdoor", sum := "c05febcceb3013d6afeb39bce71541bbe48ec6e43857365fd51b576d2874e7b4", func := "inspeximus/inspeximuslaw19.AuditSmall", spec := "auditSmall", unfollowed := true, recurses := true, named := ["inspeximus/api.First", "inspeximus/api.K"], apart := false, laid := [("inspeximus/api.K", laid_inspeximus_api_K), ("inspeximus/api.First", laid_inspeximus_api_First)], narrowed := true }
def AuditSmallUptoSaid : Prop := auditSmallUptoRow.holds Tryz.pinned (OpenSpec.upto auditSmallSpec)

/-- 'inspeximuslaw19.AuditMeans', WHERE WHAT IT READS IS OF BULK AT MOST 1048576: true; the input reads as it did. -/
def auditMeansUptoRow : OpenClaim := { program := "ytomndohdnfebgaagreatdoor", sum := "c05febcceb3013d6afeb39bce71541bbe48ec6e43857365fd51b576d2874e7b4", func := "inspeximus/inspeximuslaw19.AuditMeans", spec := "auditMeans", unfollowed := true, recurses := true, named := ["inspeximus/api.First", "inspeximus/api.K"], apart := false, laid := [("inspeximus/api.K", laid_inspeximus_api_K), ("inspeximus/api.First", laid_inspeximus_api_First)], narrowed := true }
def AuditMeansUptoSaid : Prop := auditMeansUptoRow.holds Tryz.pinned (OpenSpec.upto auditMeansSpec)

/-- 'inspeximuslaw19.AuditAlone', WHERE WHAT IT READS IS OF BULK AT MOST 1048576: true; the input reads as it did. -/
def auditAloneUptoRow : OpenClaim := { program := "ytomndohdnfebgaagreatdoor", sum := "c05febcceb3013d6afeb39bce71541bbe48ec6e43857365fd51b576d2874e7b4", func := "inspeximus/inspeximuslaw19.AuditAlone", spec := "auditAlone", unfollowed := true, recurses := true, named := ["inspeximus/api.First", "inspeximus/api.K"], apart := false, laid := [("inspeximus/api.K", laid_inspeximus_api_K), ("inspeximus/api.First", laid_inspeximus_api_First)], narrowed := true }
def AuditAloneUptoSaid : Prop := auditAloneUptoRow.holds Tryz.pinned (OpenSpec.upto auditAloneSpec)

end Rows
end Go.Proofs.YtomndohdnfebgaaGreatDoor
