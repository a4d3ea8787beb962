/-
  No cell of these rows narrows 'for every input' (looked for: loops, veiled, ifaces, maps, wideKeys, modest, calm, conditions, laid).
  DERIVED. THE GIVEN ROWS OF THIS SEAT. 13 by the template 'for every input the law returns true; each argument reads behind the call as it read before'; 0 by the template 'total and deterministic' (their statements: YtjjnllklhcjomaaTotals.lean).
  GIVEN WITH THE SEED: the statements are not yours to turn. If you find one false, say at which input.
  Laid BY PROGRAM, IN A SANDBOX (cutbox-rows.mjs): the forced cells as the released guide's own fill.sh prints them over the translation 0e786b189818bce8… (all of the seat's roots in one cut). By AI agents, Wed Nov 11 2026. No macro, syntax, notation, axiom, sorry.
-/
import Derived.Test.YtjjnllklhcjomaaChecked
import GoSem.Claim
import GoSem.ClaimJoined
import GoSem.ClaimMapViews
import Derived.JoinedTies
import Derived.KernelRfl
namespace Go.Proofs.Ytjjnllklhcjomaa
/- THE CELL 'sum', in the pinned program and in every row, IS THE sha256 OF THE DUMP (.gsa) THAT YtjjnllklhcjomaaProg.lean LOADS. Nothing in Lean hashes anything: it is a label: what it is worth is what the hold of that sum in a sandbox is worth. -/
noncomputable def Try.pinned : Pinned := { name := "ytjjnllklhcjomaa", sum := "0e786b189818bce8666f910344efe0460124682f95873bdfd0450e62c87d140b", checked := Try.checked }
namespace Rows
def none {H : Type} : Left H := { results := [], args := [] }

/-- 'laws.FnExactIsProgram': WHATEVER THE INPUT: true; the input reads as it did. -/
def fnExactIsProgramSpec : ChangeSpec := { name := "fnExactIsProgram", fn := fun _ => fun
  | [d] => { results := [.lit (.bool true)], args := [d] }
  | _ => none }
def fnExactIsProgramRow : OpenClaim := { program := "ytjjnllklhcjomaa", sum := "0e786b189818bce8666f910344efe0460124682f95873bdfd0450e62c87d140b", func := "loop.example/g00948/laws.FnExactIsProgram", spec := "fnExactIsProgram", apart := false }
def FnExactIsProgramSaid : Prop := fnExactIsProgramRow.holds Try.pinned (OpenSpec.ofChange fnExactIsProgramSpec)

/-- ITS FALSE NEIGHBOUR: 'it returns false'. Refute it at one input. -/
def fnExactIsProgramWrong : ChangeSpec := { name := "fnExactIsProgram", fn := fun _ => fun
  | [d] => { results := [.lit (.bool false)], args := [d] }
  | _ => none }
def FnExactIsProgramWrongFalsely : Prop := fnExactIsProgramRow.holds Try.pinned (OpenSpec.ofChange fnExactIsProgramWrong)

/-- 'laws.FnExactIsDrawing': WHATEVER THE INPUT: true; the input reads as it did. -/
def fnExactIsDrawingSpec : ChangeSpec := { name := "fnExactIsDrawing", fn := fun _ => fun
  | [d] => { results := [.lit (.bool true)], args := [d] }
  | _ => none }
def fnExactIsDrawingRow : OpenClaim := { program := "ytjjnllklhcjomaa", sum := "0e786b189818bce8666f910344efe0460124682f95873bdfd0450e62c87d140b", func := "loop.example/g00948/laws.FnExactIsDrawing", spec := "fnExactIsDrawing", unfollowed := true, recurses := true, apart := false }
def FnExactIsDrawingSaid : Prop := fnExactIsDrawingRow.holds Try.pinned (OpenSpec.ofChange fnExactIsDrawingSpec)

/-- ITS FALSE NEIGHBOUR: 'it returns false'. Refute it at one input. -/
def fnExactIsDrawingWrong : ChangeSpec := { name := "fnExactIsDrawing", fn := fun _ => fun
  | [d] => { results := [.lit (.bool false)], args := [d] }
  | _ => none }
def FnExactIsDrawingWrongFalsely : Prop := fnExactIsDrawingRow.holds Try.pinned (OpenSpec.ofChange fnExactIsDrawingWrong)

/-- 'laws.FnExactClipSegment': WHATEVER THE INPUT: true; the input reads as it did. -/
def fnExactClipSegmentSpec : ChangeSpec := { name := "fnExactClipSegment", fn := fun _ => fun
  | [d1, d2, d3] => { results := [.lit (.bool true)], args := [d1, d2, d3] }
  | _ => none }
def fnExactClipSegmentRow : OpenClaim := { program := "ytjjnllklhcjomaa", sum := "0e786b189818bce8666f910344efe0460124682f95873bdfd0450e62c87d140b", func := "loop.example/g00948/laws.FnExactClipSegment", spec := "fnExactClipSegment", apart := false }
def FnExactClipSegmentSaid : Prop := fnExactClipSegmentRow.holds Try.pinned (OpenSpec.ofChange fnExactClipSegmentSpec)

/-- ITS FALSE NEIGHBOUR: 'it returns false'. Refute it at one input. -/
def fnExactClipSegmentWrong : ChangeSpec := { name := "fnExactClipSegment", fn := fun _ => fun
  | [d1, d2, d3] => { results := [.lit (.bool false)], args := [d1, d2, d3] }
  | _ => none }
def FnExactClipSegmentWrongFalsely : Prop := fnExactClipSegmentRow.holds Try.pinned (OpenSpec.ofChange fnExactClipSegmentWrong)

/-- 'laws.FnExactPenChanges': WHATEVER THE INPUT: true; the input reads as it did. -/
def fnExactPenChangesSpec : ChangeSpec := { name := "fnExactPenChanges", fn := fun _ => fun
  | [d] => { results := [.lit (.bool true)], args := [d] }
  | _ => none }
def fnExactPenChangesRow : OpenClaim := { program := "ytjjnllklhcjomaa", sum := "0e786b189818bce8666f910344efe0460124682f95873bdfd0450e62c87d140b", func := "loop.example/g00948/laws.FnExactPenChanges", spec := "fnExactPenChanges", unfollowed := true, recurses := true, apart := false }
def FnExactPenChangesSaid : Prop := fnExactPenChangesRow.holds Try.pinned (OpenSpec.ofChange fnExactPenChangesSpec)

/-- ITS FALSE NEIGHBOUR: 'it returns false'. Refute it at one input. -/
def fnExactPenChangesWrong : ChangeSpec := { name := "fnExactPenChanges", fn := fun _ => fun
  | [d] => { results := [.lit (.bool false)], args := [d] }
  | _ => none }
def FnExactPenChangesWrongFalsely : Prop := fnExactPenChangesRow.holds Try.pinned (OpenSpec.ofChange fnExactPenChangesWrong)

/-- 'laws.FnExactIdleWay': WHATEVER THE INPUT: true; the input reads as it did. -/
def fnExactIdleWaySpec : ChangeSpec := { name := "fnExactIdleWay", fn := fun _ => fun
  | [d] => { results := [.lit (.bool true)], args := [d] }
  | _ => none }
def fnExactIdleWayRow : OpenClaim := { program := "ytjjnllklhcjomaa", sum := "0e786b189818bce8666f910344efe0460124682f95873bdfd0450e62c87d140b", func := "loop.example/g00948/laws.FnExactIdleWay", spec := "fnExactIdleWay", unfollowed := true, recurses := true, apart := false }
def FnExactIdleWaySaid : Prop := fnExactIdleWayRow.holds Try.pinned (OpenSpec.ofChange fnExactIdleWaySpec)

/-- ITS FALSE NEIGHBOUR: 'it returns false'. Refute it at one input. -/
def fnExactIdleWayWrong : ChangeSpec := { name := "fnExactIdleWay", fn := fun _ => fun
  | [d] => { results := [.lit (.bool false)], args := [d] }
  | _ => none }
def FnExactIdleWayWrongFalsely : Prop := fnExactIdleWayRow.holds Try.pinned (OpenSpec.ofChange fnExactIdleWayWrong)

/-- 'laws.FnExactDrawnLength': WHATEVER THE INPUT: true; the input reads as it did. -/
def fnExactDrawnLengthSpec : ChangeSpec := { name := "fnExactDrawnLength", fn := fun _ => fun
  | [d] => { results := [.lit (.bool true)], args := [d] }
  | _ => none }
def fnExactDrawnLengthRow : OpenClaim := { program := "ytjjnllklhcjomaa", sum := "0e786b189818bce8666f910344efe0460124682f95873bdfd0450e62c87d140b", func := "loop.example/g00948/laws.FnExactDrawnLength", spec := "fnExactDrawnLength", unfollowed := true, recurses := true, apart := false }
def FnExactDrawnLengthSaid : Prop := fnExactDrawnLengthRow.holds Try.pinned (OpenSpec.ofChange fnExactDrawnLengthSpec)

/-- ITS FALSE NEIGHBOUR: 'it returns false'. Refute it at one input. -/
def fnExactDrawnLengthWrong : ChangeSpec := { name := "fnExactDrawnLength", fn := fun _ => fun
  | [d] => { results := [.lit (.bool false)], args := [d] }
  | _ => none }
def FnExactDrawnLengthWrongFalsely : Prop := fnExactDrawnLengthRow.holds Try.pinned (OpenSpec.ofChange fnExactDrawnLengthWrong)

/-- 'laws.FnExactStrokesWith': WHATEVER THE INPUT: true; the input reads as it did. -/
def fnExactStrokesWithSpec : ChangeSpec := { name := "fnExactStrokesWith", fn := fun _ => fun
  | [d1, d2] => { results := [.lit (.bool true)], args := [d1, d2] }
  | _ => none }
def fnExactStrokesWithRow : OpenClaim := { program := "ytjjnllklhcjomaa", sum := "0e786b189818bce8666f910344efe0460124682f95873bdfd0450e62c87d140b", func := "loop.example/g00948/laws.FnExactStrokesWith", spec := "fnExactStrokesWith", unfollowed := true, recurses := true, apart := false }
def FnExactStrokesWithSaid : Prop := fnExactStrokesWithRow.holds Try.pinned (OpenSpec.ofChange fnExactStrokesWithSpec)

/-- ITS FALSE NEIGHBOUR: 'it returns false'. Refute it at one input. -/
def fnExactStrokesWithWrong : ChangeSpec := { name := "fnExactStrokesWith", fn := fun _ => fun
  | [d1, d2] => { results := [.lit (.bool false)], args := [d1, d2] }
  | _ => none }
def FnExactStrokesWithWrongFalsely : Prop := fnExactStrokesWithRow.holds Try.pinned (OpenSpec.ofChange fnExactStrokesWithWrong)

/-- 'laws.FnClipped': WHATEVER THE INPUT: true; the input reads as it did. -/
def fnClippedSpec : ChangeSpec := { name := "fnClipped", fn := fun _ => fun
  | [d] => { results := [.lit (.bool true)], args := [d] }
  | _ => none }
def fnClippedRow : OpenClaim := { program := "ytjjnllklhcjomaa", sum := "0e786b189818bce8666f910344efe0460124682f95873bdfd0450e62c87d140b", func := "loop.example/g00948/laws.FnClipped", spec := "fnClipped", apart := false }
def FnClippedSaid : Prop := fnClippedRow.holds Try.pinned (OpenSpec.ofChange fnClippedSpec)

/-- ITS FALSE NEIGHBOUR: 'it returns false'. Refute it at one input. -/
def fnClippedWrong : ChangeSpec := { name := "fnClipped", fn := fun _ => fun
  | [d] => { results := [.lit (.bool false)], args := [d] }
  | _ => none }
def FnClippedWrongFalsely : Prop := fnClippedRow.holds Try.pinned (OpenSpec.ofChange fnClippedWrong)

/-- 'laws.FnExactClipLine': WHATEVER THE INPUT: true; the input reads as it did. -/
def fnExactClipLineSpec : ChangeSpec := { name := "fnExactClipLine", fn := fun _ => fun
  | [d1, d2] => { results := [.lit (.bool true)], args := [d1, d2] }
  | _ => none }
def fnExactClipLineRow : OpenClaim := { program := "ytjjnllklhcjomaa", sum := "0e786b189818bce8666f910344efe0460124682f95873bdfd0450e62c87d140b", func := "loop.example/g00948/laws.FnExactClipLine", spec := "fnExactClipLine", unfollowed := true, recurses := true, apart := false }
def FnExactClipLineSaid : Prop := fnExactClipLineRow.holds Try.pinned (OpenSpec.ofChange fnExactClipLineSpec)

/-- ITS FALSE NEIGHBOUR: 'it returns false'. Refute it at one input. -/
def fnExactClipLineWrong : ChangeSpec := { name := "fnExactClipLine", fn := fun _ => fun
  | [d1, d2] => { results := [.lit (.bool false)], args := [d1, d2] }
  | _ => none }
def FnExactClipLineWrongFalsely : Prop := fnExactClipLineRow.holds Try.pinned (OpenSpec.ofChange fnExactClipLineWrong)

/-- 'laws.FnExactClippedLength': WHATEVER THE INPUT: true; the input reads as it did. -/
def fnExactClippedLengthSpec : ChangeSpec := { name := "fnExactClippedLength", fn := fun _ => fun
  | [d1, d2] => { results := [.lit (.bool true)], args := [d1, d2] }
  | _ => none }
def fnExactClippedLengthRow : OpenClaim := { program := "ytjjnllklhcjomaa", sum := "0e786b189818bce8666f910344efe0460124682f95873bdfd0450e62c87d140b", func := "loop.example/g00948/laws.FnExactClippedLength", spec := "fnExactClippedLength", unfollowed := true, recurses := true, apart := false }
def FnExactClippedLengthSaid : Prop := fnExactClippedLengthRow.holds Try.pinned (OpenSpec.ofChange fnExactClippedLengthSpec)

/-- ITS FALSE NEIGHBOUR: 'it returns false'. Refute it at one input. -/
def fnExactClippedLengthWrong : ChangeSpec := { name := "fnExactClippedLength", fn := fun _ => fun
  | [d1, d2] => { results := [.lit (.bool false)], args := [d1, d2] }
  | _ => none }
def FnExactClippedLengthWrongFalsely : Prop := fnExactClippedLengthRow.holds Try.pinned (OpenSpec.ofChange fnExactClippedLengthWrong)

/-- 'laws.FnPieces': WHATEVER THE INPUT: true; the input reads as it did. -/
def fnPiecesSpec : ChangeSpec := { name := "fnPieces", fn := fun _ => fun
  | [d] => { results := [.lit (.bool true)], args := [d] }
  | _ => none }
def fnPiecesRow : OpenClaim := { program := "ytjjnllklhcjomaa", sum := "0e786b189818bce8666f910344efe0460124682f95873bdfd0450e62c87d140b", func := "loop.example/g00948/laws.FnPieces", spec := "fnPieces", unfollowed := true, recurses := true, apart := false }
def FnPiecesSaid : Prop := fnPiecesRow.holds Try.pinned (OpenSpec.ofChange fnPiecesSpec)

/-- ITS FALSE NEIGHBOUR: 'it returns false'. Refute it at one input. -/
def fnPiecesWrong : ChangeSpec := { name := "fnPieces", fn := fun _ => fun
  | [d] => { results := [.lit (.bool false)], args := [d] }
  | _ => none }
def FnPiecesWrongFalsely : Prop := fnPiecesRow.holds Try.pinned (OpenSpec.ofChange fnPiecesWrong)

/-- 'laws.FnExactStrokesOf': WHATEVER THE INPUT: true; the input reads as it did. -/
def fnExactStrokesOfSpec : ChangeSpec := { name := "fnExactStrokesOf", fn := fun _ => fun
  | [d1, d2, d3] => { results := [.lit (.bool true)], args := [d1, d2, d3] }
  | _ => none }
def fnExactStrokesOfRow : OpenClaim := { program := "ytjjnllklhcjomaa", sum := "0e786b189818bce8666f910344efe0460124682f95873bdfd0450e62c87d140b", func := "loop.example/g00948/laws.FnExactStrokesOf", spec := "fnExactStrokesOf", unfollowed := true, recurses := true, apart := false }
def FnExactStrokesOfSaid : Prop := fnExactStrokesOfRow.holds Try.pinned (OpenSpec.ofChange fnExactStrokesOfSpec)

/-- ITS FALSE NEIGHBOUR: 'it returns false'. Refute it at one input. -/
def fnExactStrokesOfWrong : ChangeSpec := { name := "fnExactStrokesOf", fn := fun _ => fun
  | [d1, d2, d3] => { results := [.lit (.bool false)], args := [d1, d2, d3] }
  | _ => none }
def FnExactStrokesOfWrongFalsely : Prop := fnExactStrokesOfRow.holds Try.pinned (OpenSpec.ofChange fnExactStrokesOfWrong)

/-- 'laws.FnPens': WHATEVER THE INPUT: true; the input reads as it did. -/
def fnPensSpec : ChangeSpec := { name := "fnPens", fn := fun _ => fun
  | [d] => { results := [.lit (.bool true)], args := [d] }
  | _ => none }
def fnPensRow : OpenClaim := { program := "ytjjnllklhcjomaa", sum := "0e786b189818bce8666f910344efe0460124682f95873bdfd0450e62c87d140b", func := "loop.example/g00948/laws.FnPens", spec := "fnPens", unfollowed := true, recurses := true, apart := false }
def FnPensSaid : Prop := fnPensRow.holds Try.pinned (OpenSpec.ofChange fnPensSpec)

/-- ITS FALSE NEIGHBOUR: 'it returns false'. Refute it at one input. -/
def fnPensWrong : ChangeSpec := { name := "fnPens", fn := fun _ => fun
  | [d] => { results := [.lit (.bool false)], args := [d] }
  | _ => none }
def FnPensWrongFalsely : Prop := fnPensRow.holds Try.pinned (OpenSpec.ofChange fnPensWrong)

/- THE SECOND FORM. 'bulk': how many values and letters a reading holds, each counted each time it is reached (what is shared counts as often as it is met; a slice's spare places count too). A statement '..UptoSaid' is the law's where the arguments, and the package variables that the reading takes, are together of bulk at most 1048576: NARROWER than '..Said'. Prove '..Said' where nothing that the law and all that it calls make is longer than what came in: it says more and counts as full. Else prove '..UptoSaid'. A law counts once. -/
mutual
def uptoBulk {H : Type} : DataW H → Nat
  | .lit (.string bytes) => bytes.length + 1
  | .lit _ => 1
  | .nil => 1
  | .ptr d => uptoBulk d + 1
  | .slice elems spare => uptoBulkAll elems + uptoBulkAll spare + 1
  | .agg parts => uptoBulkAll parts + 1
  | .iface _ d => uptoBulk d + 1
  | .map entries => uptoBulkEntries entries + 1
  | .held _ => 1
def uptoBulkAll {H : Type} : List (DataW H) → Nat
  | [] => 0
  | d :: r => uptoBulk d + uptoBulkAll r
def uptoBulkEntries {H : Type} : List (Lit × DataW H) → Nat
  | [] => 0
  | x :: r => uptoBulkEntry x + uptoBulkEntries r
def uptoBulkEntry {H : Type} : Lit × DataW H → Nat
  | (.string bytes, d) => bytes.length + uptoBulk d + 1
  | (_, d) => uptoBulk d + 1
 end
def uptoSmall : (H : Type) → List (DataW H) → Bool := fun _ ds => decide (uptoBulkAll ds ≤ 1048576)
def OpenSpec.upto (s : _root_.Go.ChangeSpec) : _root_.Go.OpenSpec := { _root_.Go.OpenSpec.ofChange s with cond := some uptoSmall }

/-- 'laws.FnExactIsProgram', WHERE WHAT IT READS IS OF BULK AT MOST 1048576: true; the input reads as it did. -/
def fnExactIsProgramUptoRow : OpenClaim := { program := "ytjjnllklhcjomaa", sum := "0e786b189818bce8666f910344efe0460124682f95873bdfd0450e62c87d140b", func := "loop.example/g00948/laws.FnExactIsProgram", spec := "fnExactIsProgram", apart := false, narrowed := true }
def FnExactIsProgramUptoSaid : Prop := fnExactIsProgramUptoRow.holds Try.pinned (OpenSpec.upto fnExactIsProgramSpec)

/-- 'laws.FnExactIsDrawing', WHERE WHAT IT READS IS OF BULK AT MOST 1048576: true; the input reads as it did. -/
def fnExactIsDrawingUptoRow : OpenClaim := { program := "ytjjnllklhcjomaa", sum := "0e786b189818bce8666f910344efe0460124682f95873bdfd0450e62c87d140b", func := "loop.example/g00948/laws.FnExactIsDrawing", spec := "fnExactIsDrawing", unfollowed := true, recurses := true, apart := false, narrowed := true }
def FnExactIsDrawingUptoSaid : Prop := fnExactIsDrawingUptoRow.holds Try.pinned (OpenSpec.upto fnExactIsDrawingSpec)

/-- 'laws.FnExactClipSegment', WHERE WHAT IT READS IS OF BULK AT MOST 1048576: true; the input reads as it did. -/
def fnExactClipSegmentUptoRow : OpenClaim := { program := "ytjjnllklhcjomaa", sum := "0e786b189818bce8666f910344efe0460124682f95873bdfd0450e62c87d140b", func := "loop.example/g00948/laws.FnExactClipSegment", spec := "fnExactClipSegment", apart := false, narrowed := true }
def FnExactClipSegmentUptoSaid : Prop := fnExactClipSegmentUptoRow.holds Try.pinned (OpenSpec.upto fnExactClipSegmentSpec)

/-- 'laws.FnExactPenChanges', WHERE WHAT IT READS IS OF BULK AT MOST 1048576: true; the input reads as it did. -/
def fnExactPenChangesUptoRow : OpenClaim := { program := "ytjjnllklhcjomaa", sum := "0e786b189818bce8666f910344efe0460124682f95873bdfd0450e62c87d140b", func := "loop.example/g00948/laws.FnExactPenChanges", spec := "fnExactPenChanges", unfollowed := true, recurses := true, apart := false, narrowed := true }
def FnExactPenChangesUptoSaid : Prop := fnExactPenChangesUptoRow.holds Try.pinned (OpenSpec.upto fnExactPenChangesSpec)

/-- 'laws.FnExactIdleWay', WHERE WHAT IT READS IS OF BULK AT MOST 1048576: true; the input reads as it did. -/
def fnExactIdleWayUptoRow : OpenClaim := { program := "ytjjnllklhcjomaa", sum := "0e786b189818bce8666f910344efe0460124682f95873bdfd0450e62c87d140b", func := "loop.example/g00948/laws.FnExactIdleWay", spec := "fnExactIdleWay", unfollowed := true, recurses := true, apart := false, narrowed := true }
def FnExactIdleWayUptoSaid : Prop := fnExactIdleWayUptoRow.holds Try.pinned (OpenSpec.upto fnExactIdleWaySpec)

/-- 'laws.FnExactDrawnLength', WHERE WHAT IT READS IS OF BULK AT MOST 1048576: true; the input reads as it did. -/
def fnExactDrawnLengthUptoRow : OpenClaim := { program := "ytjjnllklhcjomaa", sum := "0e786b189818bce8666f910344efe0460124682f95873bdfd0450e62c87d140b", func := "loop.example/g00948/laws.FnExactDrawnLength", spec := "fnExactDrawnLength", unfollowed := true, recurses := true, apart := false, narrowed := true }
def FnExactDrawnLengthUptoSaid : Prop := fnExactDrawnLengthUptoRow.holds Try.pinned (OpenSpec.upto fnExactDrawnLengthSpec)

/-- 'laws.FnExactStrokesWith', WHERE WHAT IT READS IS OF BULK AT MOST 1048576: true; the input reads as it did. -/
def fnExactStrokesWithUptoRow : OpenClaim := { program := "ytjjnllklhcjomaa", sum := "0e786b189818bce8666f910344efe0460124682f95873bdfd0450e62c87d140b", func := "loop.example/g00948/laws.FnExactStrokesWith", spec := "fnExactStrokesWith", unfollowed := true, recurses := true, apart := false, narrowed := true }
def FnExactStrokesWithUptoSaid : Prop := fnExactStrokesWithUptoRow.holds Try.pinned (OpenSpec.upto fnExactStrokesWithSpec)

/-- 'laws.FnClipped', WHERE WHAT IT READS IS OF BULK AT MOST 1048576: true; the input reads as it did. -/
def fnClippedUptoRow : OpenClaim := { program := "ytjjnllklhcjomaa", sum := "0e786b189818bce8666f910344efe0460124682f95873bdfd0450e62c87d140b", func := "loop.example/g00948/laws.FnClipped", spec := "fnClipped", apart := false, narrowed := true }
def FnClippedUptoSaid : Prop := fnClippedUptoRow.holds Try.pinned (OpenSpec.upto fnClippedSpec)

/-- 'laws.FnExactClipLine', WHERE WHAT IT READS IS OF BULK AT MOST 1048576: true; the input reads as it did. -/
def fnExactClipLineUptoRow : OpenClaim := { program := "ytjjnllklhcjomaa", sum := "0e786b189818bce8666f910344efe0460124682f95873bdfd0450e62c87d140b", func := "loop.example/g00948/laws.FnExactClipLine", spec := "fnExactClipLine", unfollowed := true, recurses := true, apart := false, narrowed := true }
def FnExactClipLineUptoSaid : Prop := fnExactClipLineUptoRow.holds Try.pinned (OpenSpec.upto fnExactClipLineSpec)

/-- 'laws.FnExactClippedLength', WHERE WHAT IT READS IS OF BULK AT MOST 1048576: true; the input reads as it did. -/
def fnExactClippedLengthUptoRow : OpenClaim := { program := "ytjjnllklhcjomaa", sum := "0e786b189818bce8666f910344efe0460124682f95873bdfd0450e62c87d140b", func := "loop.example/g00948/laws.FnExactClippedLength", spec := "fnExactClippedLength", unfollowed := true, recurses := true, apart := false, narrowed := true }
def FnExactClippedLengthUptoSaid : Prop := fnExactClippedLengthUptoRow.holds Try.pinned (OpenSpec.upto fnExactClippedLengthSpec)

/-- 'laws.FnPieces', WHERE WHAT IT READS IS OF BULK AT MOST 1048576: true; the input reads as it did. -/
def fnPiecesUptoRow : OpenClaim := { program := "ytjjnllklhcjomaa", sum := "0e786b189818bce8666f910344efe0460124682f95873bdfd0450e62c87d140b", func := "loop.example/g00948/laws.FnPieces", spec := "fnPieces", unfollowed := true, recurses := true, apart := false, narrowed := true }
def FnPiecesUptoSaid : Prop := fnPiecesUptoRow.holds Try.pinned (OpenSpec.upto fnPiecesSpec)

/-- 'laws.FnExactStrokesOf', WHERE WHAT IT READS IS OF BULK AT MOST 1048576: true; the input reads as it did. -/
def fnExactStrokesOfUptoRow : OpenClaim := { program := "ytjjnllklhcjomaa", sum := "0e786b189818bce8666f910344efe0460124682f95873bdfd0450e62c87d140b", func := "loop.example/g00948/laws.FnExactStrokesOf", spec := "fnExactStrokesOf", unfollowed := true, recurses := true, apart := false, narrowed := true }
def FnExactStrokesOfUptoSaid : Prop := fnExactStrokesOfUptoRow.holds Try.pinned (OpenSpec.upto fnExactStrokesOfSpec)

/-- 'laws.FnPens', WHERE WHAT IT READS IS OF BULK AT MOST 1048576: true; the input reads as it did. -/
def fnPensUptoRow : OpenClaim := { program := "ytjjnllklhcjomaa", sum := "0e786b189818bce8666f910344efe0460124682f95873bdfd0450e62c87d140b", func := "loop.example/g00948/laws.FnPens", spec := "fnPens", unfollowed := true, recurses := true, apart := false, narrowed := true }
def FnPensUptoSaid : Prop := fnPensUptoRow.holds Try.pinned (OpenSpec.upto fnPensSpec)

end Rows
end Go.Proofs.Ytjjnllklhcjomaa
