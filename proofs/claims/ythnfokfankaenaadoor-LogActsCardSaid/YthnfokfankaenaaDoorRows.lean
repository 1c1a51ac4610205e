/-
  NARROWER THAN 'FOR EVERY INPUT', by the rows' own cells (each row's printed sentence says how): LogActs: laid · LogCrash: laid · LogAgain: laid · LogChained: laid · LogTorn: laid · LogSize: laid.
  DERIVED. THE GIVEN ROWS OF THIS SEAT. 6 by the template 'for every input the law returns true; each argument reads behind the call as it read before'; 0 by the template 'total and deterministic' (their statements: YthnfokfankaenaaDoorTotals.lean).
  GIVEN WITH THE SEED: the statements are not yours to turn. If you find one false, say at which input.
  Laid BY PROGRAM, IN A SANDBOX (cutbox-rows.mjs): the forced cells as the released guide's own fill.sh prints them over the translation aae38b0999b0d7f3… (all of the seat's roots in one cut). By AI agents, Wed Nov 11 2026. No macro, syntax, notation, axiom, sorry.
-/
import Derived.Test.YthnfokfankaenaaDoorChecked
import GoSem.Claim
import GoSem.ClaimJoined
import GoSem.ClaimMapViews
import Derived.JoinedTies
import Derived.KernelRfl
namespace Go.Proofs.YthnfokfankaenaaDoor
/- THE CELL 'sum', in the pinned program and in every row, IS THE sha256 OF THE DUMP (.gsa) THAT YthnfokfankaenaaDoorProg.lean LOADS. Nothing in Lean hashes anything: it is a label: what it is worth is what the hold of that sum in a sandbox is worth. -/
noncomputable def Tryd.pinned : Pinned := { name := "ythnfokfankaenaadoor", sum := "aae38b0999b0d7f32d8014c6b968caf80dedbf3e06cf4a61aafcfb3431536380", checked := Tryd.checked }
namespace Rows
def none {H : Type} : Left H := { results := [], args := [] }

/- WHAT THE LISTED PACKAGE-LEVEL VARIABLES READ AS WHEN THE CALL BEGINS. Each datum BY PROGRAM (the guide's laid-datum.mjs) off the statement by which the dump's own 'gosem.cut.vars' lays the variable. In a bare row this is a premise. The card (YthnfokfankaenaaDoorCards.lean) ties it to the program's text. -/
def laid_inspeximus_api_K {H : Type} : DataW H := .agg [.lit (.int .u32 1116352408), .lit (.int .u32 1899447441), .lit (.int .u32 3049323471), .lit (.int .u32 3921009573), .lit (.int .u32 961987163), .lit (.int .u32 1508970993), .lit (.int .u32 2453635748), .lit (.int .u32 2870763221), .lit (.int .u32 3624381080), .lit (.int .u32 310598401), .lit (.int .u32 607225278), .lit (.int .u32 1426881987), .lit (.int .u32 1925078388), .lit (.int .u32 2162078206), .lit (.int .u32 2614888103), .lit (.int .u32 3248222580), .lit (.int .u32 3835390401), .lit (.int .u32 4022224774), .lit (.int .u32 264347078), .lit (.int .u32 604807628), .lit (.int .u32 770255983), .lit (.int .u32 1249150122), .lit (.int .u32 1555081692), .lit (.int .u32 1996064986), .lit (.int .u32 2554220882), .lit (.int .u32 2821834349), .lit (.int .u32 2952996808), .lit (.int .u32 3210313671), .lit (.int .u32 3336571891), .lit (.int .u32 3584528711), .lit (.int .u32 113926993), .lit (.int .u32 338241895), .lit (.int .u32 666307205), .lit (.int .u32 773529912), .lit (.int .u32 1294757372), .lit (.int .u32 1396182291), .lit (.int .u32 1695183700), .lit (.int .u32 1986661051), .lit (.int .u32 2177026350), .lit (.int .u32 2456956037), .lit (.int .u32 2730485921), .lit (.int .u32 2820302411), .lit (.int .u32 3259730800), .lit (.int .u32 3345764771), .lit (.int .u32 3516065817), .lit (.int .u32 3600352804), .lit (.int .u32 4094571909), .lit (.int .u32 275423344), .lit (.int .u32 430227734), .lit (.int .u32 506948616), .lit (.int .u32 659060556), .lit (.int .u32 883997877), .lit (.int .u32 958139571), .lit (.int .u32 1322822218), .lit (.int .u32 1537002063), .lit (.int .u32 1747873779), .lit (.int .u32 1955562222), .lit (.int .u32 2024104815), .lit (.int .u32 2227730452), .lit (.int .u32 2361852424), .lit (.int .u32 2428436474), .lit (.int .u32 2756734187), .lit (.int .u32 3204031479), .lit (.int .u32 3329325298)]
def laid_inspeximus_api_First {H : Type} : DataW H := .agg [.lit (.int .u32 1779033703), .lit (.int .u32 3144134277), .lit (.int .u32 1013904242), .lit (.int .u32 2773480762), .lit (.int .u32 1359893119), .lit (.int .u32 2600822924), .lit (.int .u32 528734635), .lit (.int .u32 1541459225)]

/-- 'inspeximuslaw09.LogActs': WHATEVER THE INPUT: true; the input reads as it did. -/
def logActsSpec : ChangeSpec := { name := "logActs", fn := fun _ => fun
  | [d1, d2] => { results := [.lit (.bool true)], args := [d1, d2] }
  | _ => none }
def logActsRow : OpenClaim := { program := "ythnfokfankaenaadoor", sum := "aae38b0999b0d7f32d8014c6b968caf80dedbf3e06cf4a61aafcfb3431536380", func := "inspeximus/inspeximuslaw09.LogActs", spec := "logActs", unfollowed := true, recurses := true, named := ["inspeximus/api.First", "inspeximus/api.K"], apart := false, laid := [("inspeximus/api.K", laid_inspeximus_api_K), ("inspeximus/api.First", laid_inspeximus_api_First)] }
def LogActsSaid : Prop := logActsRow.holds Tryd.pinned (OpenSpec.ofChange logActsSpec)

/-- ITS FALSE NEIGHBOUR: 'it returns false'. Refute it at one input. -/
def logActsWrong : ChangeSpec := { name := "logActs", fn := fun _ => fun
  | [d1, d2] => { results := [.lit (.bool false)], args := [d1, d2] }
  | _ => none }
def LogActsWrongFalsely : Prop := logActsRow.holds Tryd.pinned (OpenSpec.ofChange logActsWrong)

/-- 'inspeximuslaw09.LogCrash': WHATEVER THE INPUT: true; the input reads as it did. -/
def logCrashSpec : ChangeSpec := { name := "logCrash", fn := fun _ => fun
  | [d1, d2, d3] => { results := [.lit (.bool true)], args := [d1, d2, d3] }
  | _ => none }
def logCrashRow : OpenClaim := { program := "ythnfokfankaenaadoor", sum := "aae38b0999b0d7f32d8014c6b968caf80dedbf3e06cf4a61aafcfb3431536380", func := "inspeximus/inspeximuslaw09.LogCrash", spec := "logCrash", unfollowed := true, recurses := true, named := ["inspeximus/api.First", "inspeximus/api.K"], apart := false, laid := [("inspeximus/api.K", laid_inspeximus_api_K), ("inspeximus/api.First", laid_inspeximus_api_First)] }
def LogCrashSaid : Prop := logCrashRow.holds Tryd.pinned (OpenSpec.ofChange logCrashSpec)

/-- ITS FALSE NEIGHBOUR: 'it returns false'. Refute it at one input. -/
def logCrashWrong : ChangeSpec := { name := "logCrash", fn := fun _ => fun
  | [d1, d2, d3] => { results := [.lit (.bool false)], args := [d1, d2, d3] }
  | _ => none }
def LogCrashWrongFalsely : Prop := logCrashRow.holds Tryd.pinned (OpenSpec.ofChange logCrashWrong)

/-- 'inspeximuslaw09.LogAgain': WHATEVER THE INPUT: true; the input reads as it did. -/
def logAgainSpec : ChangeSpec := { name := "logAgain", fn := fun _ => fun
  | [d] => { results := [.lit (.bool true)], args := [d] }
  | _ => none }
def logAgainRow : OpenClaim := { program := "ythnfokfankaenaadoor", sum := "aae38b0999b0d7f32d8014c6b968caf80dedbf3e06cf4a61aafcfb3431536380", func := "inspeximus/inspeximuslaw09.LogAgain", spec := "logAgain", unfollowed := true, recurses := true, named := ["inspeximus/api.First", "inspeximus/api.K"], apart := false, laid := [("inspeximus/api.K", laid_inspeximus_api_K), ("inspeximus/api.First", laid_inspeximus_api_First)] }
def LogAgainSaid : Prop := logAgainRow.holds Tryd.pinned (OpenSpec.ofChange logAgainSpec)

/-- ITS FALSE NEIGHBOUR: 'it returns false'. Refute it at one input. -/
def logAgainWrong : ChangeSpec := { name := "logAgain", fn := fun _ => fun
  | [d] => { results := [.lit (.bool false)], args := [d] }
  | _ => none }
def LogAgainWrongFalsely : Prop := logAgainRow.holds Tryd.pinned (OpenSpec.ofChange logAgainWrong)

/-- 'inspeximuslaw09.LogChained': WHATEVER THE INPUT: true; the input reads as it did. -/
def logChainedSpec : ChangeSpec := { name := "logChained", fn := fun _ => fun
  | [d] => { results := [.lit (.bool true)], args := [d] }
  | _ => none }
def logChainedRow : OpenClaim := { program := "ythnfokfankaenaadoor", sum := "aae38b0999b0d7f32d8014c6b968caf80dedbf3e06cf4a61aafcfb3431536380", func := "inspeximus/inspeximuslaw09.LogChained", spec := "logChained", unfollowed := true, recurses := true, named := ["inspeximus/api.First", "inspeximus/api.K"], apart := false, laid := [("inspeximus/api.K", laid_inspeximus_api_K), ("inspeximus/api.First", laid_inspeximus_api_First)] }
def LogChainedSaid : Prop := logChainedRow.holds Tryd.pinned (OpenSpec.ofChange logChainedSpec)

/-- ITS FALSE NEIGHBOUR: 'it returns false'. Refute it at one input. -/
def logChainedWrong : ChangeSpec := { name := "logChained", fn := fun _ => fun
  | [d] => { results := [.lit (.bool false)], args := [d] }
  | _ => none }
def LogChainedWrongFalsely : Prop := logChainedRow.holds Tryd.pinned (OpenSpec.ofChange logChainedWrong)

/-- 'inspeximuslaw09.LogTorn': WHATEVER THE INPUT: true; the input reads as it did. -/
def logTornSpec : ChangeSpec := { name := "logTorn", fn := fun _ => fun
  | [d1, d2] => { results := [.lit (.bool true)], args := [d1, d2] }
  | _ => none }
def logTornRow : OpenClaim := { program := "ythnfokfankaenaadoor", sum := "aae38b0999b0d7f32d8014c6b968caf80dedbf3e06cf4a61aafcfb3431536380", func := "inspeximus/inspeximuslaw09.LogTorn", spec := "logTorn", unfollowed := true, recurses := true, named := ["inspeximus/api.First", "inspeximus/api.K"], apart := false, laid := [("inspeximus/api.K", laid_inspeximus_api_K), ("inspeximus/api.First", laid_inspeximus_api_First)] }
def LogTornSaid : Prop := logTornRow.holds Tryd.pinned (OpenSpec.ofChange logTornSpec)

/-- ITS FALSE NEIGHBOUR: 'it returns false'. Refute it at one input. -/
def logTornWrong : ChangeSpec := { name := "logTorn", fn := fun _ => fun
  | [d1, d2] => { results := [.lit (.bool false)], args := [d1, d2] }
  | _ => none }
def LogTornWrongFalsely : Prop := logTornRow.holds Tryd.pinned (OpenSpec.ofChange logTornWrong)

/-- 'inspeximuslaw09.LogSize': WHATEVER THE INPUT: true; the input reads as it did. -/
def logSizeSpec : ChangeSpec := { name := "logSize", fn := fun _ => fun
  | [d] => { results := [.lit (.bool true)], args := [d] }
  | _ => none }
def logSizeRow : OpenClaim := { program := "ythnfokfankaenaadoor", sum := "aae38b0999b0d7f32d8014c6b968caf80dedbf3e06cf4a61aafcfb3431536380", func := "inspeximus/inspeximuslaw09.LogSize", spec := "logSize", unfollowed := true, recurses := true, named := ["inspeximus/api.First", "inspeximus/api.K"], apart := false, laid := [("inspeximus/api.K", laid_inspeximus_api_K), ("inspeximus/api.First", laid_inspeximus_api_First)] }
def LogSizeSaid : Prop := logSizeRow.holds Tryd.pinned (OpenSpec.ofChange logSizeSpec)

/-- ITS FALSE NEIGHBOUR: 'it returns false'. Refute it at one input. -/
def logSizeWrong : ChangeSpec := { name := "logSize", fn := fun _ => fun
  | [d] => { results := [.lit (.bool false)], args := [d] }
  | _ => none }
def LogSizeWrongFalsely : Prop := logSizeRow.holds Tryd.pinned (OpenSpec.ofChange logSizeWrong)

/- THE SECOND FORM. 'bulk': how many values and letters a reading holds, each counted each time it is reached (what is shared counts as often as it is met; a slice's spare places count too). A statement '..UptoSaid' is the law's where the arguments, and the package variables that the reading takes, are together of bulk at most 1048576: NARROWER than '..Said'. Prove '..Said' where nothing that the law and all that it calls make is longer than what came in: it says more and counts as full. Else prove '..UptoSaid'. A law counts once. -/
mutual
def uptoBulk {H : Type} : DataW H → Nat
  | .lit (.string bytes) => bytes.length + 1
  | .lit _ => 1
  | .nil => 1
  | .ptr d => uptoBulk d + 1
  | .slice elems spare => uptoBulkAll elems + uptoBulkAll spare + 1
  | .agg parts => uptoBulkAll parts + 1
  | .iface _ d => uptoBulk d + 1
  | .map entries => uptoBulkEntries entries + 1
  | .held _ => 1
def uptoBulkAll {H : Type} : List (DataW H) → Nat
  | [] => 0
  | d :: r => uptoBulk d + uptoBulkAll r
def uptoBulkEntries {H : Type} : List (Lit × DataW H) → Nat
  | [] => 0
  | x :: r => uptoBulkEntry x + uptoBulkEntries r
def uptoBulkEntry {H : Type} : Lit × DataW H → Nat
  | (.string bytes, d) => bytes.length + uptoBulk d + 1
  | (_, d) => uptoBulk d + 1
 end
def uptoSmall : (H : Type) → List (DataW H) → Bool := fun _ ds => decide (uptoBulkAll ds ≤ 1048576)
def OpenSpec.upto (s : _root_.Go.ChangeSpec) : _root_.Go.OpenSpec := { _root_.Go.OpenSpec.ofChange s with cond := some uptoSmall }

/-- 'inspeximuslaw09.LogActs', WHERE WHAT IT READS IS OF BULK AT MOST 1048576: true; the input reads as it did. -/
def logActsUptoRow : OpenClaim := { program := "ythnfokfankaenaadoor", sum := "aae38b0999b0d7f32d8014c6b968caf80dedbf3e06cf4a61aafcfb3431536380", func := "inspeximus/inspeximuslaw09.LogActs", spec := "logActs", unfollowed := true, recurses := true, named := ["inspeximus/api.First", "inspeximus/api.K"], apart := false, laid := [("inspeximus/api.K", laid_inspeximus_api_K), ("inspeximus/api.First", laid_inspeximus_api_First)], narrowed := true }
def LogActsUptoSaid : Prop := logActsUptoRow.holds Tryd.pinned (OpenSpec.upto logActsSpec)

/-- 'inspeximuslaw09.LogCrash', WHERE WHAT IT READS IS OF BULK AT MOST 1048576: true; the input reads as it did. -/
def logCrashUptoRow : OpenClaim := { program := "ythnfokfankaenaadoor", sum := "aae38b0999b0d7f32d8014c6b968caf80dedbf3e06cf4a61aafcfb3431536380", func := "inspeximus/inspeximuslaw09.LogCrash", spec := "logCrash", unfollowed := true, recurses := true, named := ["inspeximus/api.First", "inspeximus/api.K"], apart := false, laid := [("inspeximus/api.K", laid_inspeximus_api_K), ("inspeximus/api.First", laid_inspeximus_api_First)], narrowed := true }
def LogCrashUptoSaid : Prop := logCrashUptoRow.holds Tryd.pinned (OpenSpec.upto logCrashSpec)

/-- 'inspeximuslaw09.LogAgain', WHERE WHAT IT READS IS OF BULK AT MOST 1048576: true; the input reads as it did. -/
def logAgainUptoRow : OpenClaim := { program := "ythnfokfankaenaadoor", sum := "aae38b0999b0d7f32d8014c6b968caf80dedbf3e06cf4a61aafcfb3431536380", func := "inspeximus/inspeximuslaw09.LogAgain", spec := "logAgain", unfollowed := true, recurses := true, named := ["inspeximus/api.First", "inspeximus/api.K"], apart := false, laid := [("inspeximus/api.K", laid_inspeximus_api_K), ("inspeximus/api.First", laid_inspeximus_api_First)], narrowed := true }
def LogAgainUptoSaid : Prop := logAgainUptoRow.holds Tryd.pinned (OpenSpec.upto logAgainSpec)

/-- 'inspeximuslaw09.LogChained', WHERE WHAT IT READS IS OF BULK AT MOST 1048576: true; the input reads as it did. -/
def logChainedUptoRow : OpenClaim := { program := "ythnfokfankaenaadoor", sum := "aae38b0999b0d7f32d8014c6b968caf80dedbf3e06cf4a61aafcfb3431536380", func := "inspeximus/inspeximuslaw09.LogChained", spec := "logChained", unfollowed := true, recurses := true, named := ["inspeximus/api.First", "inspeximus/api.K"], apart := false, laid := [("inspeximus/api.K", laid_inspeximus_api_K), ("inspeximus/api.First", laid_inspeximus_api_First)], narrowed := true }
def LogChainedUptoSaid : Prop := logChainedUptoRow.holds Tryd.pinned (OpenSpec.upto logChainedSpec)

/-- 'inspeximuslaw09.LogTorn', WHERE WHAT IT READS IS OF BULK AT MOST 1048576: true; the input reads as it did. -/
def logTornUptoRow : OpenClaim := { program := "ythnfokfankaenaadoor", sum := "aae38b0999b0d7f32d8014c6b968caf80dedbf3e06cf4a61aafcfb3431536380", func := "inspeximus/inspeximuslaw09.LogTorn", spec := "logTorn", unfollowed := true, recurses := true, named := ["inspeximus/api.First", "inspeximus/api.K"], apart := false, laid := [("inspeximus/api.K", laid_inspeximus_api_K), ("inspeximus/api.First", laid_inspeximus_api_First)], narrowed := true }
def LogTornUptoSaid : Prop := logTornUptoRow.holds Tryd.pinned (OpenSpec.upto logTornSpec)

/-- 'inspeximuslaw09.LogSize', WHERE WHAT IT READS IS OF BULK AT MOST 1048576: true; the input reads as it did. -/
def logSizeUptoRow : OpenClaim := { program := "ythnfokfankaenaadoor", sum := "aae38b0999b0d7f32d8014c6b968caf80dedbf3e06cf4a61aafcfb3431536380", func := "inspeximus/inspeximuslaw09.LogSize", spec := "logSize", unfollowed := true, recurses := true, named := ["inspeximus/api.First", "inspeximus/api.K"], apart := false, laid := [("inspeximus/api.K", laid_inspeximus_api_K), ("inspeximus/api.First", laid_inspeximus_api_First)], narrowed := true }
def LogSizeUptoSaid : Prop := logSizeUptoRow.holds Tryd.pinned (OpenSpec.upto logSizeSpec)

end Rows
end Go.Proofs.YthnfokfankaenaaDoor
