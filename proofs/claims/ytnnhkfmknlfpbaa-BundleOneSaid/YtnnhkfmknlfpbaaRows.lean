/-
  No cell of these rows narrows 'for every input' (looked for: loops, veiled, ifaces, maps, wideKeys, modest, calm, conditions, laid).
  DERIVED. THE GIVEN ROWS OF THIS SEAT. 5 by the template 'for every input the law returns true; each argument reads behind the call as it read before'; 0 by the template 'total and deterministic' (their statements: YtnnhkfmknlfpbaaTotals.lean).
  GIVEN WITH THE SEED: the statements are not yours to turn. If you find one false, say at which input.
  Laid BY PROGRAM, IN A SANDBOX (cutbox-rows.mjs): the forced cells as the released guide's own fill.sh prints them over the translation e89e7ae29532922b… (all of the seat's roots in one cut). By AI agents, Wed Nov 11 2026. No macro, syntax, notation, axiom, sorry.
-/
import Derived.Test.YtnnhkfmknlfpbaaChecked
import GoSem.Claim
import GoSem.ClaimJoined
import GoSem.ClaimMapViews
import Derived.JoinedTies
import Derived.KernelRfl
namespace Go.Proofs.Ytnnhkfmknlfpbaa
/- THE CELL 'sum', in the pinned program and in every row, IS THE sha256 OF THE DUMP (.gsa) THAT YtnnhkfmknlfpbaaProg.lean LOADS. Nothing in Lean hashes anything: it is a label: what it is worth is what the hold of that sum in a sandbox is worth. -/
noncomputable def Try.pinned : Pinned := { name := "ytnnhkfmknlfpbaa", sum := "e89e7ae29532922b3e82e8180f53d574049a80ab1e51d37fdbf70ff876a9b149", checked := Try.checked }
namespace Rows
def none {H : Type} : Left H := { results := [], args := [] }

/-- 'inspeximuslaw17.BundleBack': WHATEVER THE INPUT: true; the input reads as it did. -/
def bundleBackSpec : ChangeSpec := { name := "bundleBack", fn := fun _ => fun
  | [d] => { results := [.lit (.bool true)], args := [d] }
  | _ => none }
def bundleBackRow : OpenClaim := { program := "ytnnhkfmknlfpbaa", sum := "e89e7ae29532922b3e82e8180f53d574049a80ab1e51d37fdbf70ff876a9b149", func := "inspeximus/inspeximuslaw17.BundleBack", spec := "bundleBack", unfollowed := true, recurses := true, apart := false }
def BundleBackSaid : Prop := bundleBackRow.holds Try.pinned (OpenSpec.ofChange bundleBackSpec)

/-- ITS FALSE NEIGHBOUR: 'it returns false'. Refute it at one input. -/
def bundleBackWrong : ChangeSpec := { name := "bundleBack", fn := fun _ => fun
  | [d] => { results := [.lit (.bool false)], args := [d] }
  | _ => none }
def BundleBackWrongFalsely : Prop := bundleBackRow.holds Try.pinned (OpenSpec.ofChange bundleBackWrong)

/-- 'inspeximuslaw17.BundleOne': WHATEVER THE INPUT: true; the input reads as it did. -/
def bundleOneSpec : ChangeSpec := { name := "bundleOne", fn := fun _ => fun
  | [d1, d2] => { results := [.lit (.bool true)], args := [d1, d2] }
  | _ => none }
def bundleOneRow : OpenClaim := { program := "ytnnhkfmknlfpbaa", sum := "e89e7ae29532922b3e82e8180f53d574049a80ab1e51d37fdbf70ff876a9b149", func := "inspeximus/inspeximuslaw17.BundleOne", spec := "bundleOne", unfollowed := true, recurses := true, apart := false }
def BundleOneSaid : Prop := bundleOneRow.holds Try.pinned (OpenSpec.ofChange bundleOneSpec)

/-- ITS FALSE NEIGHBOUR: 'it returns false'. Refute it at one input. -/
def bundleOneWrong : ChangeSpec := { name := "bundleOne", fn := fun _ => fun
  | [d1, d2] => { results := [.lit (.bool false)], args := [d1, d2] }
  | _ => none }
def BundleOneWrongFalsely : Prop := bundleOneRow.holds Try.pinned (OpenSpec.ofChange bundleOneWrong)

/-- 'inspeximuslaw17.BundleItems': WHATEVER THE INPUT: true; the input reads as it did. -/
def bundleItemsSpec : ChangeSpec := { name := "bundleItems", fn := fun _ => fun
  | [d1, d2] => { results := [.lit (.bool true)], args := [d1, d2] }
  | _ => none }
def bundleItemsRow : OpenClaim := { program := "ytnnhkfmknlfpbaa", sum := "e89e7ae29532922b3e82e8180f53d574049a80ab1e51d37fdbf70ff876a9b149", func := "inspeximus/inspeximuslaw17.BundleItems", spec := "bundleItems", unfollowed := true, recurses := true, apart := false }
def BundleItemsSaid : Prop := bundleItemsRow.holds Try.pinned (OpenSpec.ofChange bundleItemsSpec)

/-- ITS FALSE NEIGHBOUR: 'it returns false'. Refute it at one input. -/
def bundleItemsWrong : ChangeSpec := { name := "bundleItems", fn := fun _ => fun
  | [d1, d2] => { results := [.lit (.bool false)], args := [d1, d2] }
  | _ => none }
def BundleItemsWrongFalsely : Prop := bundleItemsRow.holds Try.pinned (OpenSpec.ofChange bundleItemsWrong)

/-- 'inspeximuslaw17.BundleForms': WHATEVER THE INPUT: true; the input reads as it did. -/
def bundleFormsSpec : ChangeSpec := { name := "bundleForms", fn := fun _ => fun
  | [d] => { results := [.lit (.bool true)], args := [d] }
  | _ => none }
def bundleFormsRow : OpenClaim := { program := "ytnnhkfmknlfpbaa", sum := "e89e7ae29532922b3e82e8180f53d574049a80ab1e51d37fdbf70ff876a9b149", func := "inspeximus/inspeximuslaw17.BundleForms", spec := "bundleForms", unfollowed := true, recurses := true, apart := false }
def BundleFormsSaid : Prop := bundleFormsRow.holds Try.pinned (OpenSpec.ofChange bundleFormsSpec)

/-- ITS FALSE NEIGHBOUR: 'it returns false'. Refute it at one input. -/
def bundleFormsWrong : ChangeSpec := { name := "bundleForms", fn := fun _ => fun
  | [d] => { results := [.lit (.bool false)], args := [d] }
  | _ => none }
def BundleFormsWrongFalsely : Prop := bundleFormsRow.holds Try.pinned (OpenSpec.ofChange bundleFormsWrong)

/-- 'inspeximuslaw17.BundleSigs': WHATEVER THE INPUT: true; the input reads as it did. -/
def bundleSigsSpec : ChangeSpec := { name := "bundleSigs", fn := fun _ => fun
  | [d1, d2, d3] => { results := [.lit (.bool true)], args := [d1, d2, d3] }
  | _ => none }
def bundleSigsRow : OpenClaim := { program := "ytnnhkfmknlfpbaa", sum := "e89e7ae29532922b3e82e8180f53d574049a80ab1e51d37fdbf70ff876a9b149", func := "inspeximus/inspeximuslaw17.BundleSigs", spec := "bundleSigs", unfollowed := true, recurses := true, apart := false }
def BundleSigsSaid : Prop := bundleSigsRow.holds Try.pinned (OpenSpec.ofChange bundleSigsSpec)

/-- ITS FALSE NEIGHBOUR: 'it returns false'. Refute it at one input. -/
def bundleSigsWrong : ChangeSpec := { name := "bundleSigs", fn := fun _ => fun
  | [d1, d2, d3] => { results := [.lit (.bool false)], args := [d1, d2, d3] }
  | _ => none }
def BundleSigsWrongFalsely : Prop := bundleSigsRow.holds Try.pinned (OpenSpec.ofChange bundleSigsWrong)

/- THE SECOND FORM. 'bulk': how many values and letters a reading holds, each counted each time it is reached (what is shared counts as often as it is met; a slice's spare places count too). A statement '..UptoSaid' is the law's where the arguments, and the package variables that the reading takes, are together of bulk at most 1048576: NARROWER than '..Said'. Prove '..Said' where nothing that the law and all that it calls make is longer than what came in: it says more and counts as full. Else prove '..UptoSaid'. A law counts once. -/
mutual
def uptoBulk {H : Type} : DataW H → Nat
  | .lit (.string bytes) => bytes.length + 1
  | .lit _ => 1
  | .nil => 1
  | .ptr d => uptoBulk d + 1
  | .slice elems spare => uptoBulkAll elems + uptoBulkAll spare + 1
  | .agg parts => uptoBulkAll parts + 1
  | .iface _ d => uptoBulk d + 1
  | .map entries => uptoBulkEntries entries + 1
  | .held _ => 1
def uptoBulkAll {H : Type} : List (DataW H) → Nat
  | [] => 0
  | d :: r => uptoBulk d + uptoBulkAll r
def uptoBulkEntries {H : Type} : List (Lit × DataW H) → Nat
  | [] => 0
  | x :: r => uptoBulkEntry x + uptoBulkEntries r
def uptoBulkEntry {H : Type} : Lit × DataW H → Nat
  | (.string bytes, d) => bytes.length + uptoBulk d + 1
  | (_, d) => uptoBulk d + 1
 end
def uptoSmall : (H : Type) → List (DataW H) → Bool := fun _ ds => decide (uptoBulkAll ds ≤ 1048576)
def OpenSpec.upto (s : _root_.Go.ChangeSpec) : _root_.Go.OpenSpec := { _root_.Go.OpenSpec.ofChange s with cond := some uptoSmall }

/-- 'inspeximuslaw17.BundleBack', WHERE WHAT IT READS IS OF BULK AT MOST 1048576: true; the input reads as it did. -/
def bundleBackUptoRow : OpenClaim := { program := "ytnnhkfmknlfpbaa", sum := "e89e7ae29532922b3e82e8180f53d574049a80ab1e51d37fdbf70ff876a9b149", func := "inspeximus/inspeximuslaw17.BundleBack", spec := "bundleBack", unfollowed := true, recurses := true, apart := false, narrowed := true }
def BundleBackUptoSaid : Prop := bundleBackUptoRow.holds Try.pinned (OpenSpec.upto bundleBackSpec)

/-- 'inspeximuslaw17.BundleOne', WHERE WHAT IT READS IS OF BULK AT MOST 1048576: true; the input reads as it did. -/
def bundleOneUptoRow : OpenClaim := { program := "ytnnhkfmknlfpbaa", sum := "e89e7ae29532922b3e82e8180f53d574049a80ab1e51d37fdbf70ff876a9b149", func := "inspeximus/inspeximuslaw17.BundleOne", spec := "bundleOne", unfollowed := true, recurses := true, apart := false, narrowed := true }
def BundleOneUptoSaid : Prop := bundleOneUptoRow.holds Try.pinned (OpenSpec.upto bundleOneSpec)

/-- 'inspeximuslaw17.BundleItems', WHERE WHAT IT READS IS OF BULK AT MOST 1048576: true; the input reads as it did. -/
def bundleItemsUptoRow : OpenClaim := { program := "ytnnhkfmknlfpbaa", sum := "e89e7ae29532922b3e82e8180f53d574049a80ab1e51d37fdbf70ff876a9b149", func := "inspeximus/inspeximuslaw17.BundleItems", spec := "bundleItems", unfollowed := true, recurses := true, apart := false, narrowed := true }
def BundleItemsUptoSaid : Prop := bundleItemsUptoRow.holds Try.pinned (OpenSpec.upto bundleItemsSpec)

/-- 'inspeximuslaw17.BundleForms', WHERE WHAT IT READS IS OF BULK AT MOST 1048576: true; the input reads as it did. -/
def bundleFormsUptoRow : OpenClaim := { program := "ytnnhkfmknlfpbaa", sum := "e89e7ae29532922b3e82e8180f53d574049a80ab1e51d37fdbf70ff876a9b149", func := "inspeximus/inspeximuslaw17.BundleForms", spec := "bundleForms", unfollowed := true, recurses := true, apart := false, narrowed := true }
def BundleFormsUptoSaid : Prop := bundleFormsUptoRow.holds Try.pinned (OpenSpec.upto bundleFormsSpec)

/-- 'inspeximuslaw17.BundleSigs', WHERE WHAT IT READS IS OF BULK AT MOST 1048576: true; the input reads as it did. -/
def bundleSigsUptoRow : OpenClaim := { program := "ytnnhkfmknlfpbaa", sum := "e89e7ae29532922b3e82e8180f53d574049a80ab1e51d37fdbf70ff876a9b149", func := "inspeximus/inspeximuslaw17.BundleSigs", spec := "bundleSigs", unfollowed := true, recurses := true, apart := false, narrowed := true }
def BundleSigsUptoSaid : Prop := bundleSigsUptoRow.holds Try.pinned (OpenSpec.upto bundleSigsSpec)

end Rows
end Go.Proofs.Ytnnhkfmknlfpbaa
