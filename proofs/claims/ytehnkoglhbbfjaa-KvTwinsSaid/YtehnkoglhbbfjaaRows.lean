/-
  No cell of these rows narrows 'for every input' (looked for: loops, veiled, ifaces, maps, wideKeys, modest, calm, conditions, laid).
  DERIVED. THE GIVEN ROWS OF THIS SEAT. 16 by the template 'for every input the law returns true; each argument reads behind the call as it read before'; 0 by the template 'total and deterministic' (their statements: YtehnkoglhbbfjaaTotals.lean).
  GIVEN WITH THE SEED: the statements are not yours to turn. If you find one false, say at which input.
  Laid BY PROGRAM, IN A SANDBOX (cutbox-rows.mjs): the forced cells as the released guide's own fill.sh prints them over the translation 04918e2bfe8c96a3… (all of the seat's roots in one cut). By AI agents, Wed Nov 11 2026. No macro, syntax, notation, axiom, sorry.
-/
import Derived.Test.YtehnkoglhbbfjaaChecked
import GoSem.Claim
import GoSem.ClaimJoined
import GoSem.ClaimMapViews
import Derived.JoinedTies
import Derived.KernelRfl
namespace Go.Proofs.Ytehnkoglhbbfjaa
/- THE CELL 'sum', in the pinned program and in every row, IS THE sha256 OF THE DUMP (.gsa) THAT YtehnkoglhbbfjaaProg.lean LOADS. Nothing in Lean hashes anything: it is a label: what it is worth is what the hold of that sum in a sandbox is worth. -/
noncomputable def Try.pinned : Pinned := { name := "ytehnkoglhbbfjaa", sum := "04918e2bfe8c96a347b398735efcb3383890802a7711ec15daa29ca319ce09a0", checked := Try.checked }
namespace Rows
def none {H : Type} : Left H := { results := [], args := [] }

/-- 'tidemarklaw03.TreeOf': WHATEVER THE INPUT: true; the input reads as it did. -/
def treeOfSpec : ChangeSpec := { name := "treeOf", fn := fun _ => fun
  | [d] => { results := [.lit (.bool true)], args := [d] }
  | _ => none }
def treeOfRow : OpenClaim := { program := "ytehnkoglhbbfjaa", sum := "04918e2bfe8c96a347b398735efcb3383890802a7711ec15daa29ca319ce09a0", func := "tidemark/tidemarklaw03.TreeOf", spec := "treeOf", recurses := true, apart := false }
def TreeOfSaid : Prop := treeOfRow.holds Try.pinned (OpenSpec.ofChange treeOfSpec)

/-- ITS FALSE NEIGHBOUR: 'it returns false'. Refute it at one input. -/
def treeOfWrong : ChangeSpec := { name := "treeOf", fn := fun _ => fun
  | [d] => { results := [.lit (.bool false)], args := [d] }
  | _ => none }
def TreeOfWrongFalsely : Prop := treeOfRow.holds Try.pinned (OpenSpec.ofChange treeOfWrong)

/-- 'tidemarklaw03.TreeScans': WHATEVER THE INPUT: true; the input reads as it did. -/
def treeScansSpec : ChangeSpec := { name := "treeScans", fn := fun _ => fun
  | [d1, d2, d3, d4] => { results := [.lit (.bool true)], args := [d1, d2, d3, d4] }
  | _ => none }
def treeScansRow : OpenClaim := { program := "ytehnkoglhbbfjaa", sum := "04918e2bfe8c96a347b398735efcb3383890802a7711ec15daa29ca319ce09a0", func := "tidemark/tidemarklaw03.TreeScans", spec := "treeScans", recurses := true, apart := false }
def TreeScansSaid : Prop := treeScansRow.holds Try.pinned (OpenSpec.ofChange treeScansSpec)

/-- ITS FALSE NEIGHBOUR: 'it returns false'. Refute it at one input. -/
def treeScansWrong : ChangeSpec := { name := "treeScans", fn := fun _ => fun
  | [d1, d2, d3, d4] => { results := [.lit (.bool false)], args := [d1, d2, d3, d4] }
  | _ => none }
def TreeScansWrongFalsely : Prop := treeScansRow.holds Try.pinned (OpenSpec.ofChange treeScansWrong)

/-- 'tidemarklaw03.TreeDiffs': WHATEVER THE INPUT: true; the input reads as it did. -/
def treeDiffsSpec : ChangeSpec := { name := "treeDiffs", fn := fun _ => fun
  | [d1, d2, d3] => { results := [.lit (.bool true)], args := [d1, d2, d3] }
  | _ => none }
def treeDiffsRow : OpenClaim := { program := "ytehnkoglhbbfjaa", sum := "04918e2bfe8c96a347b398735efcb3383890802a7711ec15daa29ca319ce09a0", func := "tidemark/tidemarklaw03.TreeDiffs", spec := "treeDiffs", recurses := true, apart := false }
def TreeDiffsSaid : Prop := treeDiffsRow.holds Try.pinned (OpenSpec.ofChange treeDiffsSpec)

/-- ITS FALSE NEIGHBOUR: 'it returns false'. Refute it at one input. -/
def treeDiffsWrong : ChangeSpec := { name := "treeDiffs", fn := fun _ => fun
  | [d1, d2, d3] => { results := [.lit (.bool false)], args := [d1, d2, d3] }
  | _ => none }
def TreeDiffsWrongFalsely : Prop := treeDiffsRow.holds Try.pinned (OpenSpec.ofChange treeDiffsWrong)

/-- 'tidemarklaw03.TreePlaces': WHATEVER THE INPUT: true; the input reads as it did. -/
def treePlacesSpec : ChangeSpec := { name := "treePlaces", fn := fun _ => fun
  | [d1, d2, d3] => { results := [.lit (.bool true)], args := [d1, d2, d3] }
  | _ => none }
def treePlacesRow : OpenClaim := { program := "ytehnkoglhbbfjaa", sum := "04918e2bfe8c96a347b398735efcb3383890802a7711ec15daa29ca319ce09a0", func := "tidemark/tidemarklaw03.TreePlaces", spec := "treePlaces", recurses := true, apart := false }
def TreePlacesSaid : Prop := treePlacesRow.holds Try.pinned (OpenSpec.ofChange treePlacesSpec)

/-- ITS FALSE NEIGHBOUR: 'it returns false'. Refute it at one input. -/
def treePlacesWrong : ChangeSpec := { name := "treePlaces", fn := fun _ => fun
  | [d1, d2, d3] => { results := [.lit (.bool false)], args := [d1, d2, d3] }
  | _ => none }
def TreePlacesWrongFalsely : Prop := treePlacesRow.holds Try.pinned (OpenSpec.ofChange treePlacesWrong)

/-- 'tidemarklaw03.TreePlays': WHATEVER THE INPUT: true; the input reads as it did. -/
def treePlaysSpec : ChangeSpec := { name := "treePlays", fn := fun _ => fun
  | [d] => { results := [.lit (.bool true)], args := [d] }
  | _ => none }
def treePlaysRow : OpenClaim := { program := "ytehnkoglhbbfjaa", sum := "04918e2bfe8c96a347b398735efcb3383890802a7711ec15daa29ca319ce09a0", func := "tidemark/tidemarklaw03.TreePlays", spec := "treePlays", recurses := true, apart := false }
def TreePlaysSaid : Prop := treePlaysRow.holds Try.pinned (OpenSpec.ofChange treePlaysSpec)

/-- ITS FALSE NEIGHBOUR: 'it returns false'. Refute it at one input. -/
def treePlaysWrong : ChangeSpec := { name := "treePlays", fn := fun _ => fun
  | [d] => { results := [.lit (.bool false)], args := [d] }
  | _ => none }
def TreePlaysWrongFalsely : Prop := treePlaysRow.holds Try.pinned (OpenSpec.ofChange treePlaysWrong)

/-- 'tidemarklaw03.TreeTurns': WHATEVER THE INPUT: true; the input reads as it did. -/
def treeTurnsSpec : ChangeSpec := { name := "treeTurns", fn := fun _ => fun
  | [d] => { results := [.lit (.bool true)], args := [d] }
  | _ => none }
def treeTurnsRow : OpenClaim := { program := "ytehnkoglhbbfjaa", sum := "04918e2bfe8c96a347b398735efcb3383890802a7711ec15daa29ca319ce09a0", func := "tidemark/tidemarklaw03.TreeTurns", spec := "treeTurns", recurses := true, apart := false }
def TreeTurnsSaid : Prop := treeTurnsRow.holds Try.pinned (OpenSpec.ofChange treeTurnsSpec)

/-- ITS FALSE NEIGHBOUR: 'it returns false'. Refute it at one input. -/
def treeTurnsWrong : ChangeSpec := { name := "treeTurns", fn := fun _ => fun
  | [d] => { results := [.lit (.bool false)], args := [d] }
  | _ => none }
def TreeTurnsWrongFalsely : Prop := treeTurnsRow.holds Try.pinned (OpenSpec.ofChange treeTurnsWrong)

/-- 'tidemarklaw03.TreeShallow': WHATEVER THE INPUT: true; the input reads as it did. -/
def treeShallowSpec : ChangeSpec := { name := "treeShallow", fn := fun _ => fun
  | [d] => { results := [.lit (.bool true)], args := [d] }
  | _ => none }
def treeShallowRow : OpenClaim := { program := "ytehnkoglhbbfjaa", sum := "04918e2bfe8c96a347b398735efcb3383890802a7711ec15daa29ca319ce09a0", func := "tidemark/tidemarklaw03.TreeShallow", spec := "treeShallow", recurses := true, apart := false }
def TreeShallowSaid : Prop := treeShallowRow.holds Try.pinned (OpenSpec.ofChange treeShallowSpec)

/-- ITS FALSE NEIGHBOUR: 'it returns false'. Refute it at one input. -/
def treeShallowWrong : ChangeSpec := { name := "treeShallow", fn := fun _ => fun
  | [d] => { results := [.lit (.bool false)], args := [d] }
  | _ => none }
def TreeShallowWrongFalsely : Prop := treeShallowRow.holds Try.pinned (OpenSpec.ofChange treeShallowWrong)

/-- 'tidemarklaw03.TreeJoins': WHATEVER THE INPUT: true; the input reads as it did. -/
def treeJoinsSpec : ChangeSpec := { name := "treeJoins", fn := fun _ => fun
  | [d1, d2] => { results := [.lit (.bool true)], args := [d1, d2] }
  | _ => none }
def treeJoinsRow : OpenClaim := { program := "ytehnkoglhbbfjaa", sum := "04918e2bfe8c96a347b398735efcb3383890802a7711ec15daa29ca319ce09a0", func := "tidemark/tidemarklaw03.TreeJoins", spec := "treeJoins", recurses := true, apart := false }
def TreeJoinsSaid : Prop := treeJoinsRow.holds Try.pinned (OpenSpec.ofChange treeJoinsSpec)

/-- ITS FALSE NEIGHBOUR: 'it returns false'. Refute it at one input. -/
def treeJoinsWrong : ChangeSpec := { name := "treeJoins", fn := fun _ => fun
  | [d1, d2] => { results := [.lit (.bool false)], args := [d1, d2] }
  | _ => none }
def TreeJoinsWrongFalsely : Prop := treeJoinsRow.holds Try.pinned (OpenSpec.ofChange treeJoinsWrong)

/-- 'tidemarklaw03.TreeSplits': WHATEVER THE INPUT: true; the input reads as it did. -/
def treeSplitsSpec : ChangeSpec := { name := "treeSplits", fn := fun _ => fun
  | [d1, d2] => { results := [.lit (.bool true)], args := [d1, d2] }
  | _ => none }
def treeSplitsRow : OpenClaim := { program := "ytehnkoglhbbfjaa", sum := "04918e2bfe8c96a347b398735efcb3383890802a7711ec15daa29ca319ce09a0", func := "tidemark/tidemarklaw03.TreeSplits", spec := "treeSplits", recurses := true, apart := false }
def TreeSplitsSaid : Prop := treeSplitsRow.holds Try.pinned (OpenSpec.ofChange treeSplitsSpec)

/-- ITS FALSE NEIGHBOUR: 'it returns false'. Refute it at one input. -/
def treeSplitsWrong : ChangeSpec := { name := "treeSplits", fn := fun _ => fun
  | [d1, d2] => { results := [.lit (.bool false)], args := [d1, d2] }
  | _ => none }
def TreeSplitsWrongFalsely : Prop := treeSplitsRow.holds Try.pinned (OpenSpec.ofChange treeSplitsWrong)

/-- 'tidemarklaw09.KvChecks': WHATEVER THE INPUT: true; the input reads as it did. -/
def kvChecksSpec : ChangeSpec := { name := "kvChecks", fn := fun _ => fun
  | [d1, d2] => { results := [.lit (.bool true)], args := [d1, d2] }
  | _ => none }
def kvChecksRow : OpenClaim := { program := "ytehnkoglhbbfjaa", sum := "04918e2bfe8c96a347b398735efcb3383890802a7711ec15daa29ca319ce09a0", func := "tidemark/tidemarklaw09.KvChecks", spec := "kvChecks", unfollowed := true, recurses := true, apart := false }
def KvChecksSaid : Prop := kvChecksRow.holds Try.pinned (OpenSpec.ofChange kvChecksSpec)

/-- ITS FALSE NEIGHBOUR: 'it returns false'. Refute it at one input. -/
def kvChecksWrong : ChangeSpec := { name := "kvChecks", fn := fun _ => fun
  | [d1, d2] => { results := [.lit (.bool false)], args := [d1, d2] }
  | _ => none }
def KvChecksWrongFalsely : Prop := kvChecksRow.holds Try.pinned (OpenSpec.ofChange kvChecksWrong)

/-- 'tidemarklaw03.TreeStays': WHATEVER THE INPUT: true; the input reads as it did. -/
def treeStaysSpec : ChangeSpec := { name := "treeStays", fn := fun _ => fun
  | [d1, d2] => { results := [.lit (.bool true)], args := [d1, d2] }
  | _ => none }
def treeStaysRow : OpenClaim := { program := "ytehnkoglhbbfjaa", sum := "04918e2bfe8c96a347b398735efcb3383890802a7711ec15daa29ca319ce09a0", func := "tidemark/tidemarklaw03.TreeStays", spec := "treeStays", recurses := true, apart := false }
def TreeStaysSaid : Prop := treeStaysRow.holds Try.pinned (OpenSpec.ofChange treeStaysSpec)

/-- ITS FALSE NEIGHBOUR: 'it returns false'. Refute it at one input. -/
def treeStaysWrong : ChangeSpec := { name := "treeStays", fn := fun _ => fun
  | [d1, d2] => { results := [.lit (.bool false)], args := [d1, d2] }
  | _ => none }
def TreeStaysWrongFalsely : Prop := treeStaysRow.holds Try.pinned (OpenSpec.ofChange treeStaysWrong)

/-- 'tidemarklaw03.TreeNobody': WHATEVER THE INPUT: true; the input reads as it did. -/
def treeNobodySpec : ChangeSpec := { name := "treeNobody", fn := fun _ => fun
  | [d1, d2] => { results := [.lit (.bool true)], args := [d1, d2] }
  | _ => none }
def treeNobodyRow : OpenClaim := { program := "ytehnkoglhbbfjaa", sum := "04918e2bfe8c96a347b398735efcb3383890802a7711ec15daa29ca319ce09a0", func := "tidemark/tidemarklaw03.TreeNobody", spec := "treeNobody", recurses := true, apart := false }
def TreeNobodySaid : Prop := treeNobodyRow.holds Try.pinned (OpenSpec.ofChange treeNobodySpec)

/-- ITS FALSE NEIGHBOUR: 'it returns false'. Refute it at one input. -/
def treeNobodyWrong : ChangeSpec := { name := "treeNobody", fn := fun _ => fun
  | [d1, d2] => { results := [.lit (.bool false)], args := [d1, d2] }
  | _ => none }
def TreeNobodyWrongFalsely : Prop := treeNobodyRow.holds Try.pinned (OpenSpec.ofChange treeNobodyWrong)

/-- 'tidemarklaw03.TreeSets': WHATEVER THE INPUT: true; the input reads as it did. -/
def treeSetsSpec : ChangeSpec := { name := "treeSets", fn := fun _ => fun
  | [d1, d2] => { results := [.lit (.bool true)], args := [d1, d2] }
  | _ => none }
def treeSetsRow : OpenClaim := { program := "ytehnkoglhbbfjaa", sum := "04918e2bfe8c96a347b398735efcb3383890802a7711ec15daa29ca319ce09a0", func := "tidemark/tidemarklaw03.TreeSets", spec := "treeSets", recurses := true, apart := false }
def TreeSetsSaid : Prop := treeSetsRow.holds Try.pinned (OpenSpec.ofChange treeSetsSpec)

/-- ITS FALSE NEIGHBOUR: 'it returns false'. Refute it at one input. -/
def treeSetsWrong : ChangeSpec := { name := "treeSets", fn := fun _ => fun
  | [d1, d2] => { results := [.lit (.bool false)], args := [d1, d2] }
  | _ => none }
def TreeSetsWrongFalsely : Prop := treeSetsRow.holds Try.pinned (OpenSpec.ofChange treeSetsWrong)

/-- 'tidemarklaw09.KvTold': WHATEVER THE INPUT: true; the input reads as it did. -/
def kvToldSpec : ChangeSpec := { name := "kvTold", fn := fun _ => fun
  | [d] => { results := [.lit (.bool true)], args := [d] }
  | _ => none }
def kvToldRow : OpenClaim := { program := "ytehnkoglhbbfjaa", sum := "04918e2bfe8c96a347b398735efcb3383890802a7711ec15daa29ca319ce09a0", func := "tidemark/tidemarklaw09.KvTold", spec := "kvTold", unfollowed := true, recurses := true, apart := false }
def KvToldSaid : Prop := kvToldRow.holds Try.pinned (OpenSpec.ofChange kvToldSpec)

/-- ITS FALSE NEIGHBOUR: 'it returns false'. Refute it at one input. -/
def kvToldWrong : ChangeSpec := { name := "kvTold", fn := fun _ => fun
  | [d] => { results := [.lit (.bool false)], args := [d] }
  | _ => none }
def KvToldWrongFalsely : Prop := kvToldRow.holds Try.pinned (OpenSpec.ofChange kvToldWrong)

/-- 'tidemarklaw09.KvEvents': WHATEVER THE INPUT: true; the input reads as it did. -/
def kvEventsSpec : ChangeSpec := { name := "kvEvents", fn := fun _ => fun
  | [d1, d2] => { results := [.lit (.bool true)], args := [d1, d2] }
  | _ => none }
def kvEventsRow : OpenClaim := { program := "ytehnkoglhbbfjaa", sum := "04918e2bfe8c96a347b398735efcb3383890802a7711ec15daa29ca319ce09a0", func := "tidemark/tidemarklaw09.KvEvents", spec := "kvEvents", unfollowed := true, recurses := true, apart := false }
def KvEventsSaid : Prop := kvEventsRow.holds Try.pinned (OpenSpec.ofChange kvEventsSpec)

/-- ITS FALSE NEIGHBOUR: 'it returns false'. Refute it at one input. -/
def kvEventsWrong : ChangeSpec := { name := "kvEvents", fn := fun _ => fun
  | [d1, d2] => { results := [.lit (.bool false)], args := [d1, d2] }
  | _ => none }
def KvEventsWrongFalsely : Prop := kvEventsRow.holds Try.pinned (OpenSpec.ofChange kvEventsWrong)

/-- 'tidemarklaw09.KvTwins': WHATEVER THE INPUT: true; the input reads as it did. -/
def kvTwinsSpec : ChangeSpec := { name := "kvTwins", fn := fun _ => fun
  | [d1, d2, d3] => { results := [.lit (.bool true)], args := [d1, d2, d3] }
  | _ => none }
def kvTwinsRow : OpenClaim := { program := "ytehnkoglhbbfjaa", sum := "04918e2bfe8c96a347b398735efcb3383890802a7711ec15daa29ca319ce09a0", func := "tidemark/tidemarklaw09.KvTwins", spec := "kvTwins", unfollowed := true, recurses := true, apart := false }
def KvTwinsSaid : Prop := kvTwinsRow.holds Try.pinned (OpenSpec.ofChange kvTwinsSpec)

/-- ITS FALSE NEIGHBOUR: 'it returns false'. Refute it at one input. -/
def kvTwinsWrong : ChangeSpec := { name := "kvTwins", fn := fun _ => fun
  | [d1, d2, d3] => { results := [.lit (.bool false)], args := [d1, d2, d3] }
  | _ => none }
def KvTwinsWrongFalsely : Prop := kvTwinsRow.holds Try.pinned (OpenSpec.ofChange kvTwinsWrong)

/- THE SECOND FORM. 'bulk': how many values and letters a reading holds, each counted each time it is reached (what is shared counts as often as it is met; a slice's spare places count too). A statement '..UptoSaid' is the law's where the arguments, and the package variables that the reading takes, are together of bulk at most 1048576: NARROWER than '..Said'. Prove '..Said' where nothing that the law and all that it calls make is longer than what came in: it says more and counts as full. Else prove '..UptoSaid'. A law counts once. -/
mutual
def uptoBulk {H : Type} : DataW H → Nat
  | .lit (.string bytes) => bytes.length + 1
  | .lit _ => 1
  | .nil => 1
  | .ptr d => uptoBulk d + 1
  | .slice elems spare => uptoBulkAll elems + uptoBulkAll spare + 1
  | .agg parts => uptoBulkAll parts + 1
  | .iface _ d => uptoBulk d + 1
  | .map entries => uptoBulkEntries entries + 1
  | .held _ => 1
def uptoBulkAll {H : Type} : List (DataW H) → Nat
  | [] => 0
  | d :: r => uptoBulk d + uptoBulkAll r
def uptoBulkEntries {H : Type} : List (Lit × DataW H) → Nat
  | [] => 0
  | x :: r => uptoBulkEntry x + uptoBulkEntries r
def uptoBulkEntry {H : Type} : Lit × DataW H → Nat
  | (.string bytes, d) => bytes.length + uptoBulk d + 1
  | (_, d) => uptoBulk d + 1
 end
def uptoSmall : (H : Type) → List (DataW H) → Bool := fun _ ds => decide (uptoBulkAll ds ≤ 1048576)
def OpenSpec.upto (s : _root_.Go.ChangeSpec) : _root_.Go.OpenSpec := { _root_.Go.OpenSpec.ofChange s with cond := some uptoSmall }

/-- 'tidemarklaw03.TreeOf', WHERE WHAT IT READS IS OF BULK AT MOST 1048576: true; the input reads as it did. -/
def treeOfUptoRow : OpenClaim := { program := "ytehnkoglhbbfjaa", sum := "04918e2bfe8c96a347b398735efcb3383890802a7711ec15daa29ca319ce09a0", func := "tidemark/tidemarklaw03.TreeOf", spec := "treeOf", recurses := true, apart := false, narrowed := true }
def TreeOfUptoSaid : Prop := treeOfUptoRow.holds Try.pinned (OpenSpec.upto treeOfSpec)

/-- 'tidemarklaw03.TreeScans', WHERE WHAT IT READS IS OF BULK AT MOST 1048576: true; the input reads as it did. -/
def treeScansUptoRow : OpenClaim := { program := "ytehnkoglhbbfjaa", sum := "04918e2bfe8c96a347b398735efcb3383890802a7711ec15daa29ca319ce09a0", func := "tidemark/tidemarklaw03.TreeScans", spec := "treeScans", recurses := true, apart := false, narrowed := true }
def TreeScansUptoSaid : Prop := treeScansUptoRow.holds Try.pinned (OpenSpec.upto treeScansSpec)

/-- 'tidemarklaw03.TreeDiffs', WHERE WHAT IT READS IS OF BULK AT MOST 1048576: true; the input reads as it did. -/
def treeDiffsUptoRow : OpenClaim := { program := "ytehnkoglhbbfjaa", sum := "04918e2bfe8c96a347b398735efcb3383890802a7711ec15daa29ca319ce09a0", func := "tidemark/tidemarklaw03.TreeDiffs", spec := "treeDiffs", recurses := true, apart := false, narrowed := true }
def TreeDiffsUptoSaid : Prop := treeDiffsUptoRow.holds Try.pinned (OpenSpec.upto treeDiffsSpec)

/-- 'tidemarklaw03.TreePlaces', WHERE WHAT IT READS IS OF BULK AT MOST 1048576: true; the input reads as it did. -/
def treePlacesUptoRow : OpenClaim := { program := "ytehnkoglhbbfjaa", sum := "04918e2bfe8c96a347b398735efcb3383890802a7711ec15daa29ca319ce09a0", func := "tidemark/tidemarklaw03.TreePlaces", spec := "treePlaces", recurses := true, apart := false, narrowed := true }
def TreePlacesUptoSaid : Prop := treePlacesUptoRow.holds Try.pinned (OpenSpec.upto treePlacesSpec)

/-- 'tidemarklaw03.TreePlays', WHERE WHAT IT READS IS OF BULK AT MOST 1048576: true; the input reads as it did. -/
def treePlaysUptoRow : OpenClaim := { program := "ytehnkoglhbbfjaa", sum := "04918e2bfe8c96a347b398735efcb3383890802a7711ec15daa29ca319ce09a0", func := "tidemark/tidemarklaw03.TreePlays", spec := "treePlays", recurses := true, apart := false, narrowed := true }
def TreePlaysUptoSaid : Prop := treePlaysUptoRow.holds Try.pinned (OpenSpec.upto treePlaysSpec)

/-- 'tidemarklaw03.TreeTurns', WHERE WHAT IT READS IS OF BULK AT MOST 1048576: true; the input reads as it did. -/
def treeTurnsUptoRow : OpenClaim := { program := "ytehnkoglhbbfjaa", sum := "04918e2bfe8c96a347b398735efcb3383890802a7711ec15daa29ca319ce09a0", func := "tidemark/tidemarklaw03.TreeTurns", spec := "treeTurns", recurses := true, apart := false, narrowed := true }
def TreeTurnsUptoSaid : Prop := treeTurnsUptoRow.holds Try.pinned (OpenSpec.upto treeTurnsSpec)

/-- 'tidemarklaw03.TreeShallow', WHERE WHAT IT READS IS OF BULK AT MOST 1048576: true; the input reads as it did. -/
def treeShallowUptoRow : OpenClaim := { program := "ytehnkoglhbbfjaa", sum := "04918e2bfe8c96a347b398735efcb3383890802a7711ec15daa29ca319ce09a0", func := "tidemark/tidemarklaw03.TreeShallow", spec := "treeShallow", recurses := true, apart := false, narrowed := true }
def TreeShallowUptoSaid : Prop := treeShallowUptoRow.holds Try.pinned (OpenSpec.upto treeShallowSpec)

/-- 'tidemarklaw03.TreeJoins', WHERE WHAT IT READS IS OF BULK AT MOST 1048576: true; the input reads as it did. -/
def treeJoinsUptoRow : OpenClaim := { program := "ytehnkoglhbbfjaa", sum := "04918e2bfe8c96a347b398735efcb3383890802a7711ec15daa29ca319ce09a0", func := "tidemark/tidemarklaw03.TreeJoins", spec := "treeJoins", recurses := true, apart := false, narrowed := true }
def TreeJoinsUptoSaid : Prop := treeJoinsUptoRow.holds Try.pinned (OpenSpec.upto treeJoinsSpec)

/-- 'tidemarklaw03.TreeSplits', WHERE WHAT IT READS IS OF BULK AT MOST 1048576: true; the input reads as it did. -/
def treeSplitsUptoRow : OpenClaim := { program := "ytehnkoglhbbfjaa", sum := "04918e2bfe8c96a347b398735efcb3383890802a7711ec15daa29ca319ce09a0", func := "tidemark/tidemarklaw03.TreeSplits", spec := "treeSplits", recurses := true, apart := false, narrowed := true }
def TreeSplitsUptoSaid : Prop := treeSplitsUptoRow.holds Try.pinned (OpenSpec.upto treeSplitsSpec)

/-- 'tidemarklaw09.KvChecks', WHERE WHAT IT READS IS OF BULK AT MOST 1048576: true; the input reads as it did. -/
def kvChecksUptoRow : OpenClaim := { program := "ytehnkoglhbbfjaa", sum := "04918e2bfe8c96a347b398735efcb3383890802a7711ec15daa29ca319ce09a0", func := "tidemark/tidemarklaw09.KvChecks", spec := "kvChecks", unfollowed := true, recurses := true, apart := false, narrowed := true }
def KvChecksUptoSaid : Prop := kvChecksUptoRow.holds Try.pinned (OpenSpec.upto kvChecksSpec)

/-- 'tidemarklaw03.TreeStays', WHERE WHAT IT READS IS OF BULK AT MOST 1048576: true; the input reads as it did. -/
def treeStaysUptoRow : OpenClaim := { program := "ytehnkoglhbbfjaa", sum := "04918e2bfe8c96a347b398735efcb3383890802a7711ec15daa29ca319ce09a0", func := "tidemark/tidemarklaw03.TreeStays", spec := "treeStays", recurses := true, apart := false, narrowed := true }
def TreeStaysUptoSaid : Prop := treeStaysUptoRow.holds Try.pinned (OpenSpec.upto treeStaysSpec)

/-- 'tidemarklaw03.TreeNobody', WHERE WHAT IT READS IS OF BULK AT MOST 1048576: true; the input reads as it did. -/
def treeNobodyUptoRow : OpenClaim := { program := "ytehnkoglhbbfjaa", sum := "04918e2bfe8c96a347b398735efcb3383890802a7711ec15daa29ca319ce09a0", func := "tidemark/tidemarklaw03.TreeNobody", spec := "treeNobody", recurses := true, apart := false, narrowed := true }
def TreeNobodyUptoSaid : Prop := treeNobodyUptoRow.holds Try.pinned (OpenSpec.upto treeNobodySpec)

/-- 'tidemarklaw03.TreeSets', WHERE WHAT IT READS IS OF BULK AT MOST 1048576: true; the input reads as it did. -/
def treeSetsUptoRow : OpenClaim := { program := "ytehnkoglhbbfjaa", sum := "04918e2bfe8c96a347b398735efcb3383890802a7711ec15daa29ca319ce09a0", func := "tidemark/tidemarklaw03.TreeSets", spec := "treeSets", recurses := true, apart := false, narrowed := true }
def TreeSetsUptoSaid : Prop := treeSetsUptoRow.holds Try.pinned (OpenSpec.upto treeSetsSpec)

/-- 'tidemarklaw09.KvTold', WHERE WHAT IT READS IS OF BULK AT MOST 1048576: true; the input reads as it did. -/
def kvToldUptoRow : OpenClaim := { program := "ytehnkoglhbbfjaa", sum := "04918e2bfe8c96a347b398735efcb3383890802a7711ec15daa29ca319ce09a0", func := "tidemark/tidemarklaw09.KvTold", spec := "kvTold", unfollowed := true, recurses := true, apart := false, narrowed := true }
def KvToldUptoSaid : Prop := kvToldUptoRow.holds Try.pinned (OpenSpec.upto kvToldSpec)

/-- 'tidemarklaw09.KvEvents', WHERE WHAT IT READS IS OF BULK AT MOST 1048576: true; the input reads as it did. -/
def kvEventsUptoRow : OpenClaim := { program := "ytehnkoglhbbfjaa", sum := "04918e2bfe8c96a347b398735efcb3383890802a7711ec15daa29ca319ce09a0", func := "tidemark/tidemarklaw09.KvEvents", spec := "kvEvents", unfollowed := true, recurses := true, apart := false, narrowed := true }
def KvEventsUptoSaid : Prop := kvEventsUptoRow.holds Try.pinned (OpenSpec.upto kvEventsSpec)

/-- 'tidemarklaw09.KvTwins', WHERE WHAT IT READS IS OF BULK AT MOST 1048576: true; the input reads as it did. -/
def kvTwinsUptoRow : OpenClaim := { program := "ytehnkoglhbbfjaa", sum := "04918e2bfe8c96a347b398735efcb3383890802a7711ec15daa29ca319ce09a0", func := "tidemark/tidemarklaw09.KvTwins", spec := "kvTwins", unfollowed := true, recurses := true, apart := false, narrowed := true }
def KvTwinsUptoSaid : Prop := kvTwinsUptoRow.holds Try.pinned (OpenSpec.upto kvTwinsSpec)

end Rows
end Go.Proofs.Ytehnkoglhbbfjaa
