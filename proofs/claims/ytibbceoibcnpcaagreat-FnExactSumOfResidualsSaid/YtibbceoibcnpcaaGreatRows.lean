/-
  No cell of these rows narrows 'for every input' (looked for: loops, veiled, ifaces, maps, wideKeys, modest, calm, conditions, laid).
  DERIVED. THE GIVEN ROWS OF THIS SEAT. 12 by the template 'for every input the law returns true; each argument reads behind the call as it read before'; 0 by the template 'total and deterministic' (their statements: YtibbceoibcnpcaaGreatTotals.lean).
  GIVEN WITH THE SEED: the statements are not yours to turn. If you find one false, say at which input.
  Laid BY PROGRAM, IN A SANDBOX (cutbox-rows.mjs): the forced cells as the released guide's own fill.sh prints them over the translation 4d87533b32580297… (all of the seat's roots in one cut). By AI agents, Wed Nov 11 2026. No macro, syntax, notation, axiom, sorry.
-/
import Derived.Test.YtibbceoibcnpcaaGreatChecked
import GoSem.Claim
import GoSem.ClaimJoined
import GoSem.ClaimMapViews
import Derived.JoinedTies
import Derived.KernelRfl
namespace Go.Proofs.YtibbceoibcnpcaaGreat
/- THE CELL 'sum', in the pinned program and in every row, IS THE sha256 OF THE DUMP (.gsa) THAT YtibbceoibcnpcaaGreatProg.lean LOADS. Nothing in Lean hashes anything: it is a label: what it is worth is what the hold of that sum in a sandbox is worth. -/
noncomputable def Tryz.pinned : Pinned := { name := "ytibbceoibcnpcaagreat", sum := "4d87533b32580297154536544a9a269eda955a81a54f4016f8e036b7d8a86cb8", checked := Tryz.checked }
namespace Rows
def none {H : Type} : Left H := { results := [], args := [] }

/-- 'laws.FnTop': WHATEVER THE INPUT: true; the input reads as it did. -/
def fnTopSpec : ChangeSpec := { name := "fnTop", fn := fun _ => fun
  | [d] => { results := [.lit (.bool true)], args := [d] }
  | _ => none }
def fnTopRow : OpenClaim := { program := "ytibbceoibcnpcaagreat", sum := "4d87533b32580297154536544a9a269eda955a81a54f4016f8e036b7d8a86cb8", func := "loop.example/g00948/laws.FnTop", spec := "fnTop", unfollowed := true, recurses := true, apart := false }
def FnTopSaid : Prop := fnTopRow.holds Tryz.pinned (OpenSpec.ofChange fnTopSpec)

/-- ITS FALSE NEIGHBOUR: 'it returns false'. Refute it at one input. -/
def fnTopWrong : ChangeSpec := { name := "fnTop", fn := fun _ => fun
  | [d] => { results := [.lit (.bool false)], args := [d] }
  | _ => none }
def FnTopWrongFalsely : Prop := fnTopRow.holds Tryz.pinned (OpenSpec.ofChange fnTopWrong)

/-- 'laws.FnExactSumOfResiduals': WHATEVER THE INPUT: true; the input reads as it did. -/
def fnExactSumOfResidualsSpec : ChangeSpec := { name := "fnExactSumOfResiduals", fn := fun _ => fun
  | [d1, d2] => { results := [.lit (.bool true)], args := [d1, d2] }
  | _ => none }
def fnExactSumOfResidualsRow : OpenClaim := { program := "ytibbceoibcnpcaagreat", sum := "4d87533b32580297154536544a9a269eda955a81a54f4016f8e036b7d8a86cb8", func := "loop.example/g00948/laws.FnExactSumOfResiduals", spec := "fnExactSumOfResiduals", unfollowed := true, recurses := true, apart := false }
def FnExactSumOfResidualsSaid : Prop := fnExactSumOfResidualsRow.holds Tryz.pinned (OpenSpec.ofChange fnExactSumOfResidualsSpec)

/-- ITS FALSE NEIGHBOUR: 'it returns false'. Refute it at one input. -/
def fnExactSumOfResidualsWrong : ChangeSpec := { name := "fnExactSumOfResiduals", fn := fun _ => fun
  | [d1, d2] => { results := [.lit (.bool false)], args := [d1, d2] }
  | _ => none }
def FnExactSumOfResidualsWrongFalsely : Prop := fnExactSumOfResidualsRow.holds Tryz.pinned (OpenSpec.ofChange fnExactSumOfResidualsWrong)

/-- 'laws.FnExactWallSum': WHATEVER THE INPUT: true; the input reads as it did. -/
def fnExactWallSumSpec : ChangeSpec := { name := "fnExactWallSum", fn := fun _ => fun
  | [d1, d2, d3, d4] => { results := [.lit (.bool true)], args := [d1, d2, d3, d4] }
  | _ => none }
def fnExactWallSumRow : OpenClaim := { program := "ytibbceoibcnpcaagreat", sum := "4d87533b32580297154536544a9a269eda955a81a54f4016f8e036b7d8a86cb8", func := "loop.example/g00948/laws.FnExactWallSum", spec := "fnExactWallSum", unfollowed := true, recurses := true, apart := false }
def FnExactWallSumSaid : Prop := fnExactWallSumRow.holds Tryz.pinned (OpenSpec.ofChange fnExactWallSumSpec)

/-- ITS FALSE NEIGHBOUR: 'it returns false'. Refute it at one input. -/
def fnExactWallSumWrong : ChangeSpec := { name := "fnExactWallSum", fn := fun _ => fun
  | [d1, d2, d3, d4] => { results := [.lit (.bool false)], args := [d1, d2, d3, d4] }
  | _ => none }
def FnExactWallSumWrongFalsely : Prop := fnExactWallSumRow.holds Tryz.pinned (OpenSpec.ofChange fnExactWallSumWrong)

/-- 'laws.FnExactWorstObservation': WHATEVER THE INPUT: true; the input reads as it did. -/
def fnExactWorstObservationSpec : ChangeSpec := { name := "fnExactWorstObservation", fn := fun _ => fun
  | [d1, d2] => { results := [.lit (.bool true)], args := [d1, d2] }
  | _ => none }
def fnExactWorstObservationRow : OpenClaim := { program := "ytibbceoibcnpcaagreat", sum := "4d87533b32580297154536544a9a269eda955a81a54f4016f8e036b7d8a86cb8", func := "loop.example/g00948/laws.FnExactWorstObservation", spec := "fnExactWorstObservation", unfollowed := true, recurses := true, apart := false }
def FnExactWorstObservationSaid : Prop := fnExactWorstObservationRow.holds Tryz.pinned (OpenSpec.ofChange fnExactWorstObservationSpec)

/-- ITS FALSE NEIGHBOUR: 'it returns false'. Refute it at one input. -/
def fnExactWorstObservationWrong : ChangeSpec := { name := "fnExactWorstObservation", fn := fun _ => fun
  | [d1, d2] => { results := [.lit (.bool false)], args := [d1, d2] }
  | _ => none }
def FnExactWorstObservationWrongFalsely : Prop := fnExactWorstObservationRow.holds Tryz.pinned (OpenSpec.ofChange fnExactWorstObservationWrong)

/-- 'laws.FnExactResidualsOf': WHATEVER THE INPUT: true; the input reads as it did. -/
def fnExactResidualsOfSpec : ChangeSpec := { name := "fnExactResidualsOf", fn := fun _ => fun
  | [d1, d2] => { results := [.lit (.bool true)], args := [d1, d2] }
  | _ => none }
def fnExactResidualsOfRow : OpenClaim := { program := "ytibbceoibcnpcaagreat", sum := "4d87533b32580297154536544a9a269eda955a81a54f4016f8e036b7d8a86cb8", func := "loop.example/g00948/laws.FnExactResidualsOf", spec := "fnExactResidualsOf", unfollowed := true, recurses := true, apart := false }
def FnExactResidualsOfSaid : Prop := fnExactResidualsOfRow.holds Tryz.pinned (OpenSpec.ofChange fnExactResidualsOfSpec)

/-- ITS FALSE NEIGHBOUR: 'it returns false'. Refute it at one input. -/
def fnExactResidualsOfWrong : ChangeSpec := { name := "fnExactResidualsOf", fn := fun _ => fun
  | [d1, d2] => { results := [.lit (.bool false)], args := [d1, d2] }
  | _ => none }
def FnExactResidualsOfWrongFalsely : Prop := fnExactResidualsOfRow.holds Tryz.pinned (OpenSpec.ofChange fnExactResidualsOfWrong)

/-- 'laws.FnExactFitHeight': WHATEVER THE INPUT: true; the input reads as it did. -/
def fnExactFitHeightSpec : ChangeSpec := { name := "fnExactFitHeight", fn := fun _ => fun
  | [d1, d2, d3, d4] => { results := [.lit (.bool true)], args := [d1, d2, d3, d4] }
  | _ => none }
def fnExactFitHeightRow : OpenClaim := { program := "ytibbceoibcnpcaagreat", sum := "4d87533b32580297154536544a9a269eda955a81a54f4016f8e036b7d8a86cb8", func := "loop.example/g00948/laws.FnExactFitHeight", spec := "fnExactFitHeight", unfollowed := true, recurses := true, apart := false }
def FnExactFitHeightSaid : Prop := fnExactFitHeightRow.holds Tryz.pinned (OpenSpec.ofChange fnExactFitHeightSpec)

/-- ITS FALSE NEIGHBOUR: 'it returns false'. Refute it at one input. -/
def fnExactFitHeightWrong : ChangeSpec := { name := "fnExactFitHeight", fn := fun _ => fun
  | [d1, d2, d3, d4] => { results := [.lit (.bool false)], args := [d1, d2, d3, d4] }
  | _ => none }
def FnExactFitHeightWrongFalsely : Prop := fnExactFitHeightRow.holds Tryz.pinned (OpenSpec.ofChange fnExactFitHeightWrong)

/-- 'laws.FnYears': WHATEVER THE INPUT: true; the input reads as it did. -/
def fnYearsSpec : ChangeSpec := { name := "fnYears", fn := fun _ => fun
  | [d] => { results := [.lit (.bool true)], args := [d] }
  | _ => none }
def fnYearsRow : OpenClaim := { program := "ytibbceoibcnpcaagreat", sum := "4d87533b32580297154536544a9a269eda955a81a54f4016f8e036b7d8a86cb8", func := "loop.example/g00948/laws.FnYears", spec := "fnYears", unfollowed := true, recurses := true, apart := false }
def FnYearsSaid : Prop := fnYearsRow.holds Tryz.pinned (OpenSpec.ofChange fnYearsSpec)

/-- ITS FALSE NEIGHBOUR: 'it returns false'. Refute it at one input. -/
def fnYearsWrong : ChangeSpec := { name := "fnYears", fn := fun _ => fun
  | [d] => { results := [.lit (.bool false)], args := [d] }
  | _ => none }
def FnYearsWrongFalsely : Prop := fnYearsRow.holds Tryz.pinned (OpenSpec.ofChange fnYearsWrong)

/-- 'laws.FnExactNextFit': WHATEVER THE INPUT: true; the input reads as it did. -/
def fnExactNextFitSpec : ChangeSpec := { name := "fnExactNextFit", fn := fun _ => fun
  | [d1, d2, d3, d4, d5] => { results := [.lit (.bool true)], args := [d1, d2, d3, d4, d5] }
  | _ => none }
def fnExactNextFitRow : OpenClaim := { program := "ytibbceoibcnpcaagreat", sum := "4d87533b32580297154536544a9a269eda955a81a54f4016f8e036b7d8a86cb8", func := "loop.example/g00948/laws.FnExactNextFit", spec := "fnExactNextFit", unfollowed := true, recurses := true, apart := false }
def FnExactNextFitSaid : Prop := fnExactNextFitRow.holds Tryz.pinned (OpenSpec.ofChange fnExactNextFitSpec)

/-- ITS FALSE NEIGHBOUR: 'it returns false'. Refute it at one input. -/
def fnExactNextFitWrong : ChangeSpec := { name := "fnExactNextFit", fn := fun _ => fun
  | [d1, d2, d3, d4, d5] => { results := [.lit (.bool false)], args := [d1, d2, d3, d4, d5] }
  | _ => none }
def FnExactNextFitWrongFalsely : Prop := fnExactNextFitRow.holds Tryz.pinned (OpenSpec.ofChange fnExactNextFitWrong)

/-- 'laws.FnExactGridFit': WHATEVER THE INPUT: true; the input reads as it did. -/
def fnExactGridFitSpec : ChangeSpec := { name := "fnExactGridFit", fn := fun _ => fun
  | [d1, d2, d3, d4] => { results := [.lit (.bool true)], args := [d1, d2, d3, d4] }
  | _ => none }
def fnExactGridFitRow : OpenClaim := { program := "ytibbceoibcnpcaagreat", sum := "4d87533b32580297154536544a9a269eda955a81a54f4016f8e036b7d8a86cb8", func := "loop.example/g00948/laws.FnExactGridFit", spec := "fnExactGridFit", unfollowed := true, recurses := true, apart := false }
def FnExactGridFitSaid : Prop := fnExactGridFitRow.holds Tryz.pinned (OpenSpec.ofChange fnExactGridFitSpec)

/-- ITS FALSE NEIGHBOUR: 'it returns false'. Refute it at one input. -/
def fnExactGridFitWrong : ChangeSpec := { name := "fnExactGridFit", fn := fun _ => fun
  | [d1, d2, d3, d4] => { results := [.lit (.bool false)], args := [d1, d2, d3, d4] }
  | _ => none }
def FnExactGridFitWrongFalsely : Prop := fnExactGridFitRow.holds Tryz.pinned (OpenSpec.ofChange fnExactGridFitWrong)

/-- 'laws.FnDials': WHATEVER THE INPUT: true; the input reads as it did. -/
def fnDialsSpec : ChangeSpec := { name := "fnDials", fn := fun _ => fun
  | [d] => { results := [.lit (.bool true)], args := [d] }
  | _ => none }
def fnDialsRow : OpenClaim := { program := "ytibbceoibcnpcaagreat", sum := "4d87533b32580297154536544a9a269eda955a81a54f4016f8e036b7d8a86cb8", func := "loop.example/g00948/laws.FnDials", spec := "fnDials", unfollowed := true, recurses := true, apart := false }
def FnDialsSaid : Prop := fnDialsRow.holds Tryz.pinned (OpenSpec.ofChange fnDialsSpec)

/-- ITS FALSE NEIGHBOUR: 'it returns false'. Refute it at one input. -/
def fnDialsWrong : ChangeSpec := { name := "fnDials", fn := fun _ => fun
  | [d] => { results := [.lit (.bool false)], args := [d] }
  | _ => none }
def FnDialsWrongFalsely : Prop := fnDialsRow.holds Tryz.pinned (OpenSpec.ofChange fnDialsWrong)

/-- 'laws.FnObserved': WHATEVER THE INPUT: true; the input reads as it did. -/
def fnObservedSpec : ChangeSpec := { name := "fnObserved", fn := fun _ => fun
  | [d] => { results := [.lit (.bool true)], args := [d] }
  | _ => none }
def fnObservedRow : OpenClaim := { program := "ytibbceoibcnpcaagreat", sum := "4d87533b32580297154536544a9a269eda955a81a54f4016f8e036b7d8a86cb8", func := "loop.example/g00948/laws.FnObserved", spec := "fnObserved", unfollowed := true, recurses := true, apart := false }
def FnObservedSaid : Prop := fnObservedRow.holds Tryz.pinned (OpenSpec.ofChange fnObservedSpec)

/-- ITS FALSE NEIGHBOUR: 'it returns false'. Refute it at one input. -/
def fnObservedWrong : ChangeSpec := { name := "fnObserved", fn := fun _ => fun
  | [d] => { results := [.lit (.bool false)], args := [d] }
  | _ => none }
def FnObservedWrongFalsely : Prop := fnObservedRow.holds Tryz.pinned (OpenSpec.ofChange fnObservedWrong)

/-- 'laws.FnExactRefineFit': WHATEVER THE INPUT: true; the input reads as it did. -/
def fnExactRefineFitSpec : ChangeSpec := { name := "fnExactRefineFit", fn := fun _ => fun
  | [d1, d2, d3, d4, d5] => { results := [.lit (.bool true)], args := [d1, d2, d3, d4, d5] }
  | _ => none }
def fnExactRefineFitRow : OpenClaim := { program := "ytibbceoibcnpcaagreat", sum := "4d87533b32580297154536544a9a269eda955a81a54f4016f8e036b7d8a86cb8", func := "loop.example/g00948/laws.FnExactRefineFit", spec := "fnExactRefineFit", unfollowed := true, recurses := true, apart := false }
def FnExactRefineFitSaid : Prop := fnExactRefineFitRow.holds Tryz.pinned (OpenSpec.ofChange fnExactRefineFitSpec)

/-- ITS FALSE NEIGHBOUR: 'it returns false'. Refute it at one input. -/
def fnExactRefineFitWrong : ChangeSpec := { name := "fnExactRefineFit", fn := fun _ => fun
  | [d1, d2, d3, d4, d5] => { results := [.lit (.bool false)], args := [d1, d2, d3, d4, d5] }
  | _ => none }
def FnExactRefineFitWrongFalsely : Prop := fnExactRefineFitRow.holds Tryz.pinned (OpenSpec.ofChange fnExactRefineFitWrong)

/- THE SECOND FORM. 'bulk': how many values and letters a reading holds, each counted each time it is reached (what is shared counts as often as it is met; a slice's spare places count too). A statement '..UptoSaid' is the law's where the arguments, and the package variables that the reading takes, are together of bulk at most 1048576: NARROWER than '..Said'. Prove '..Said' where nothing that the law and all that it calls make is longer than what came in: it says more and counts as full. Else prove '..UptoSaid'. A law counts once. -/
mutual
def uptoBulk {H : Type} : DataW H → Nat
  | .lit (.string bytes) => bytes.length + 1
  | .lit _ => 1
  | .nil => 1
  | .ptr d => uptoBulk d + 1
  | .slice elems spare => uptoBulkAll elems + uptoBulkAll spare + 1
  | .agg parts => uptoBulkAll parts + 1
  | .iface _ d => uptoBulk d + 1
  | .map entries => uptoBulkEntries entries + 1
  | .held _ => 1
def uptoBulkAll {H : Type} : List (DataW H) → Nat
  | [] => 0
  | d :: r => uptoBulk d + uptoBulkAll r
def uptoBulkEntries {H : Type} : List (Lit × DataW H) → Nat
  | [] => 0
  | x :: r => uptoBulkEntry x + uptoBulkEntries r
def uptoBulkEntry {H : Type} : Lit × DataW H → Nat
  | (.string bytes, d) => bytes.length + uptoBulk d + 1
  | (_, d) => uptoBulk d + 1
 end
def uptoSmall : (H : Type) → List (DataW H) → Bool := fun _ ds => decide (uptoBulkAll ds ≤ 1048576)
def OpenSpec.upto (s : _root_.Go.ChangeSpec) : _root_.Go.OpenSpec := { _root_.Go.OpenSpec.ofChange s with cond := some uptoSmall }

/-- 'laws.FnTop', WHERE WHAT IT READS IS OF BULK AT MOST 1048576: true; the input reads as it did. -/
def fnTopUptoRow : OpenClaim := { program := "ytibbceoibcnpcaagreat", sum := "4d87533b32580297154536544a9a269eda955a81a54f4016f8e036b7d8a86cb8", func := "loop.example/g00948/laws.FnTop", spec := "fnTop", unfollowed := true, recurses := true, apart := false, narrowed := true }
def FnTopUptoSaid : Prop := fnTopUptoRow.holds Tryz.pinned (OpenSpec.upto fnTopSpec)

/-- 'laws.FnExactSumOfResiduals', WHERE WHAT IT READS IS OF BULK AT MOST 1048576: true; the input reads as it did. -/
def fnExactSumOfResidualsUptoRow : OpenClaim := { program := "ytibbceoibcnpcaagreat", sum := "4d87533b32580297154536544a9a269eda955a81a54f4016f8e036b7d8a86cb8", func := "loop.example/g00948/laws.FnExactSumOfResiduals", spec := "fnExactSumOfResiduals", unfollowed := true, recurses := true, apart := false, narrowed := true }
def FnExactSumOfResidualsUptoSaid : Prop := fnExactSumOfResidualsUptoRow.holds Tryz.pinned (OpenSpec.upto fnExactSumOfResidualsSpec)

/-- 'laws.FnExactWallSum', WHERE WHAT IT READS IS OF BULK AT MOST 1048576: true; the input reads as it did. -/
def fnExactWallSumUptoRow : OpenClaim := { program := "ytibbceoibcnpcaagreat", sum := "4d87533b32580297154536544a9a269eda955a81a54f4016f8e036b7d8a86cb8", func := "loop.example/g00948/laws.FnExactWallSum", spec := "fnExactWallSum", unfollowed := true, recurses := true, apart := false, narrowed := true }
def FnExactWallSumUptoSaid : Prop := fnExactWallSumUptoRow.holds Tryz.pinned (OpenSpec.upto fnExactWallSumSpec)

/-- 'laws.FnExactWorstObservation', WHERE WHAT IT READS IS OF BULK AT MOST 1048576: true; the input reads as it did. -/
def fnExactWorstObservationUptoRow : OpenClaim := { program := "ytibbceoibcnpcaagreat", sum := "4d87533b32580297154536544a9a269eda955a81a54f4016f8e036b7d8a86cb8", func := "loop.example/g00948/laws.FnExactWorstObservation", spec := "fnExactWorstObservation", unfollowed := true, recurses := true, apart := false, narrowed := true }
def FnExactWorstObservationUptoSaid : Prop := fnExactWorstObservationUptoRow.holds Tryz.pinned (OpenSpec.upto fnExactWorstObservationSpec)

/-- 'laws.FnExactResidualsOf', WHERE WHAT IT READS IS OF BULK AT MOST 1048576: true; the input reads as it did. -/
def fnExactResidualsOfUptoRow : OpenClaim := { program := "ytibbceoibcnpcaagreat", sum := "4d87533b32580297154536544a9a269eda955a81a54f4016f8e036b7d8a86cb8", func := "loop.example/g00948/laws.FnExactResidualsOf", spec := "fnExactResidualsOf", unfollowed := true, recurses := true, apart := false, narrowed := true }
def FnExactResidualsOfUptoSaid : Prop := fnExactResidualsOfUptoRow.holds Tryz.pinned (OpenSpec.upto fnExactResidualsOfSpec)

/-- 'laws.FnExactFitHeight', WHERE WHAT IT READS IS OF BULK AT MOST 1048576: true; the input reads as it did. -/
def fnExactFitHeightUptoRow : OpenClaim := { program := "ytibbceoibcnpcaagreat", sum := "4d87533b32580297154536544a9a269eda955a81a54f4016f8e036b7d8a86cb8", func := "loop.example/g00948/laws.FnExactFitHeight", spec := "fnExactFitHeight", unfollowed := true, recurses := true, apart := false, narrowed := true }
def FnExactFitHeightUptoSaid : Prop := fnExactFitHeightUptoRow.holds Tryz.pinned (OpenSpec.upto fnExactFitHeightSpec)

/-- 'laws.FnYears', WHERE WHAT IT READS IS OF BULK AT MOST 1048576: true; the input reads as it did. -/
def fnYearsUptoRow : OpenClaim := { program := "ytibbceoibcnpcaagreat", sum := "4d87533b32580297154536544a9a269eda955a81a54f4016f8e036b7d8a86cb8", func := "loop.example/g00948/laws.FnYears", spec := "fnYears", unfollowed := true, recurses := true, apart := false, narrowed := true }
def FnYearsUptoSaid : Prop := fnYearsUptoRow.holds Tryz.pinned (OpenSpec.upto fnYearsSpec)

/-- 'laws.FnExactNextFit', WHERE WHAT IT READS IS OF BULK AT MOST 1048576: true; the input reads as it did. -/
def fnExactNextFitUptoRow : OpenClaim := { program := "ytibbceoibcnpcaagreat", sum := "4d87533b32580297154536544a9a269eda955a81a54f4016f8e036b7d8a86cb8", func := "loop.example/g00948/laws.FnExactNextFit", spec := "fnExactNextFit", unfollowed := true, recurses := true, apart := false, narrowed := true }
def FnExactNextFitUptoSaid : Prop := fnExactNextFitUptoRow.holds Tryz.pinned (OpenSpec.upto fnExactNextFitSpec)

/-- 'laws.FnExactGridFit', WHERE WHAT IT READS IS OF BULK AT MOST 1048576: true; the input reads as it did. -/
def fnExactGridFitUptoRow : OpenClaim := { program := "ytibbceoibcnpcaagreat", sum := "4d87533b32580297154536544a9a269eda955a81a54f4016f8e036b7d8a86cb8", func := "loop.example/g00948/laws.FnExactGridFit", spec := "fnExactGridFit", unfollowed := true, recurses := true, apart := false, narrowed := true }
def FnExactGridFitUptoSaid : Prop := fnExactGridFitUptoRow.holds Tryz.pinned (OpenSpec.upto fnExactGridFitSpec)

/-- 'laws.FnDials', WHERE WHAT IT READS IS OF BULK AT MOST 1048576: true; the input reads as it did. -/
def fnDialsUptoRow : OpenClaim := { program := "ytibbceoibcnpcaagreat", sum := "4d87533b32580297154536544a9a269eda955a81a54f4016f8e036b7d8a86cb8", func := "loop.example/g00948/laws.FnDials", spec := "fnDials", unfollowed := true, recurses := true, apart := false, narrowed := true }
def FnDialsUptoSaid : Prop := fnDialsUptoRow.holds Tryz.pinned (OpenSpec.upto fnDialsSpec)

/-- 'laws.FnObserved', WHERE WHAT IT READS IS OF BULK AT MOST 1048576: true; the input reads as it did. -/
def fnObservedUptoRow : OpenClaim := { program := "ytibbceoibcnpcaagreat", sum := "4d87533b32580297154536544a9a269eda955a81a54f4016f8e036b7d8a86cb8", func := "loop.example/g00948/laws.FnObserved", spec := "fnObserved", unfollowed := true, recurses := true, apart := false, narrowed := true }
def FnObservedUptoSaid : Prop := fnObservedUptoRow.holds Tryz.pinned (OpenSpec.upto fnObservedSpec)

/-- 'laws.FnExactRefineFit', WHERE WHAT IT READS IS OF BULK AT MOST 1048576: true; the input reads as it did. -/
def fnExactRefineFitUptoRow : OpenClaim := { program := "ytibbceoibcnpcaagreat", sum := "4d87533b32580297154536544a9a269eda955a81a54f4016f8e036b7d8a86cb8", func := "loop.example/g00948/laws.FnExactRefineFit", spec := "fnExactRefineFit", unfollowed := true, recurses := true, apart := false, narrowed := true }
def FnExactRefineFitUptoSaid : Prop := fnExactRefineFitUptoRow.holds Tryz.pinned (OpenSpec.upto fnExactRefineFitSpec)

end Rows
end Go.Proofs.YtibbceoibcnpcaaGreat
