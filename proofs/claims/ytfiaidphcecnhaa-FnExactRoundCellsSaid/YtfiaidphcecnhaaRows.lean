/-
  No cell of these rows narrows 'for every input' (looked for: loops, veiled, ifaces, maps, wideKeys, modest, calm, conditions, laid).
  DERIVED. THE GIVEN ROWS OF THIS SEAT. 12 by the template 'for every input the law returns true; each argument reads behind the call as it read before'; 0 by the template 'total and deterministic' (their statements: YtfiaidphcecnhaaTotals.lean).
  GIVEN WITH THE SEED: the statements are not yours to turn. If you find one false, say at which input.
  Laid BY PROGRAM, IN A SANDBOX (cutbox-rows.mjs): the forced cells as the released guide's own fill.sh prints them over the translation 05dbb2a2c3326fd1… (all of the seat's roots in one cut). By AI agents, Wed Nov 11 2026. No macro, syntax, notation, axiom, sorry.
-/
import Derived.Test.YtfiaidphcecnhaaChecked
import GoSem.Claim
import GoSem.ClaimJoined
import GoSem.ClaimMapViews
import Derived.JoinedTies
import Derived.KernelRfl
namespace Go.Proofs.Ytfiaidphcecnhaa
/- THE CELL 'sum', in the pinned program and in every row, IS THE sha256 OF THE DUMP (.gsa) THAT YtfiaidphcecnhaaProg.lean LOADS. Nothing in Lean hashes anything: it is a label: what it is worth is what the hold of that sum in a sandbox is worth. -/
noncomputable def Try.pinned : Pinned := { name := "ytfiaidphcecnhaa", sum := "05dbb2a2c3326fd11bff2f4b8e0ddadd67fd9eebaa79f0d37bab73a1a496a8f1", checked := Try.checked }
namespace Rows
def none {H : Type} : Left H := { results := [], args := [] }

/-- 'laws.FnExactBeamSides': WHATEVER THE INPUT: true; the input reads as it did. -/
def fnExactBeamSidesSpec : ChangeSpec := { name := "fnExactBeamSides", fn := fun _ => fun
  | [d1, d2] => { results := [.lit (.bool true)], args := [d1, d2] }
  | _ => none }
def fnExactBeamSidesRow : OpenClaim := { program := "ytfiaidphcecnhaa", sum := "05dbb2a2c3326fd11bff2f4b8e0ddadd67fd9eebaa79f0d37bab73a1a496a8f1", func := "loop.example/mirrorgrids/laws.FnExactBeamSides", spec := "fnExactBeamSides", apart := false }
def FnExactBeamSidesSaid : Prop := fnExactBeamSidesRow.holds Try.pinned (OpenSpec.ofChange fnExactBeamSidesSpec)

/-- ITS FALSE NEIGHBOUR: 'it returns false'. Refute it at one input. -/
def fnExactBeamSidesWrong : ChangeSpec := { name := "fnExactBeamSides", fn := fun _ => fun
  | [d1, d2] => { results := [.lit (.bool false)], args := [d1, d2] }
  | _ => none }
def FnExactBeamSidesWrongFalsely : Prop := fnExactBeamSidesRow.holds Try.pinned (OpenSpec.ofChange fnExactBeamSidesWrong)

/-- 'laws.FnLongest': WHATEVER THE INPUT: true; the input reads as it did. -/
def fnLongestSpec : ChangeSpec := { name := "fnLongest", fn := fun _ => fun
  | [d] => { results := [.lit (.bool true)], args := [d] }
  | _ => none }
def fnLongestRow : OpenClaim := { program := "ytfiaidphcecnhaa", sum := "05dbb2a2c3326fd11bff2f4b8e0ddadd67fd9eebaa79f0d37bab73a1a496a8f1", func := "loop.example/mirrorgrids/laws.FnLongest", spec := "fnLongest", apart := false }
def FnLongestSaid : Prop := fnLongestRow.holds Try.pinned (OpenSpec.ofChange fnLongestSpec)

/-- ITS FALSE NEIGHBOUR: 'it returns false'. Refute it at one input. -/
def fnLongestWrong : ChangeSpec := { name := "fnLongest", fn := fun _ => fun
  | [d] => { results := [.lit (.bool false)], args := [d] }
  | _ => none }
def FnLongestWrongFalsely : Prop := fnLongestRow.holds Try.pinned (OpenSpec.ofChange fnLongestWrong)

/-- 'laws.FnExactBeamPairs': WHATEVER THE INPUT: true; the input reads as it did. -/
def fnExactBeamPairsSpec : ChangeSpec := { name := "fnExactBeamPairs", fn := fun _ => fun
  | [d] => { results := [.lit (.bool true)], args := [d] }
  | _ => none }
def fnExactBeamPairsRow : OpenClaim := { program := "ytfiaidphcecnhaa", sum := "05dbb2a2c3326fd11bff2f4b8e0ddadd67fd9eebaa79f0d37bab73a1a496a8f1", func := "loop.example/mirrorgrids/laws.FnExactBeamPairs", spec := "fnExactBeamPairs", apart := false }
def FnExactBeamPairsSaid : Prop := fnExactBeamPairsRow.holds Try.pinned (OpenSpec.ofChange fnExactBeamPairsSpec)

/-- ITS FALSE NEIGHBOUR: 'it returns false'. Refute it at one input. -/
def fnExactBeamPairsWrong : ChangeSpec := { name := "fnExactBeamPairs", fn := fun _ => fun
  | [d] => { results := [.lit (.bool false)], args := [d] }
  | _ => none }
def FnExactBeamPairsWrongFalsely : Prop := fnExactBeamPairsRow.holds Try.pinned (OpenSpec.ofChange fnExactBeamPairsWrong)

/-- 'laws.FnLength': WHATEVER THE INPUT: true; the input reads as it did. -/
def fnLengthSpec : ChangeSpec := { name := "fnLength", fn := fun _ => fun
  | [d] => { results := [.lit (.bool true)], args := [d] }
  | _ => none }
def fnLengthRow : OpenClaim := { program := "ytfiaidphcecnhaa", sum := "05dbb2a2c3326fd11bff2f4b8e0ddadd67fd9eebaa79f0d37bab73a1a496a8f1", func := "loop.example/mirrorgrids/laws.FnLength", spec := "fnLength", apart := false }
def FnLengthSaid : Prop := fnLengthRow.holds Try.pinned (OpenSpec.ofChange fnLengthSpec)

/-- ITS FALSE NEIGHBOUR: 'it returns false'. Refute it at one input. -/
def fnLengthWrong : ChangeSpec := { name := "fnLength", fn := fun _ => fun
  | [d] => { results := [.lit (.bool false)], args := [d] }
  | _ => none }
def FnLengthWrongFalsely : Prop := fnLengthRow.holds Try.pinned (OpenSpec.ofChange fnLengthWrong)

/-- 'laws.FnSides': WHATEVER THE INPUT: true; the input reads as it did. -/
def fnSidesSpec : ChangeSpec := { name := "fnSides", fn := fun _ => fun
  | [d] => { results := [.lit (.bool true)], args := [d] }
  | _ => none }
def fnSidesRow : OpenClaim := { program := "ytfiaidphcecnhaa", sum := "05dbb2a2c3326fd11bff2f4b8e0ddadd67fd9eebaa79f0d37bab73a1a496a8f1", func := "loop.example/mirrorgrids/laws.FnSides", spec := "fnSides", apart := false }
def FnSidesSaid : Prop := fnSidesRow.holds Try.pinned (OpenSpec.ofChange fnSidesSpec)

/-- ITS FALSE NEIGHBOUR: 'it returns false'. Refute it at one input. -/
def fnSidesWrong : ChangeSpec := { name := "fnSides", fn := fun _ => fun
  | [d] => { results := [.lit (.bool false)], args := [d] }
  | _ => none }
def FnSidesWrongFalsely : Prop := fnSidesRow.holds Try.pinned (OpenSpec.ofChange fnSidesWrong)

/-- 'laws.FnFirst': WHATEVER THE INPUT: true; the input reads as it did. -/
def fnFirstSpec : ChangeSpec := { name := "fnFirst", fn := fun _ => fun
  | [d] => { results := [.lit (.bool true)], args := [d] }
  | _ => none }
def fnFirstRow : OpenClaim := { program := "ytfiaidphcecnhaa", sum := "05dbb2a2c3326fd11bff2f4b8e0ddadd67fd9eebaa79f0d37bab73a1a496a8f1", func := "loop.example/mirrorgrids/laws.FnFirst", spec := "fnFirst", apart := false }
def FnFirstSaid : Prop := fnFirstRow.holds Try.pinned (OpenSpec.ofChange fnFirstSpec)

/-- ITS FALSE NEIGHBOUR: 'it returns false'. Refute it at one input. -/
def fnFirstWrong : ChangeSpec := { name := "fnFirst", fn := fun _ => fun
  | [d] => { results := [.lit (.bool false)], args := [d] }
  | _ => none }
def FnFirstWrongFalsely : Prop := fnFirstRow.holds Try.pinned (OpenSpec.ofChange fnFirstWrong)

/-- 'laws.FnTurns': WHATEVER THE INPUT: true; the input reads as it did. -/
def fnTurnsSpec : ChangeSpec := { name := "fnTurns", fn := fun _ => fun
  | [d] => { results := [.lit (.bool true)], args := [d] }
  | _ => none }
def fnTurnsRow : OpenClaim := { program := "ytfiaidphcecnhaa", sum := "05dbb2a2c3326fd11bff2f4b8e0ddadd67fd9eebaa79f0d37bab73a1a496a8f1", func := "loop.example/mirrorgrids/laws.FnTurns", spec := "fnTurns", apart := false }
def FnTurnsSaid : Prop := fnTurnsRow.holds Try.pinned (OpenSpec.ofChange fnTurnsSpec)

/-- ITS FALSE NEIGHBOUR: 'it returns false'. Refute it at one input. -/
def fnTurnsWrong : ChangeSpec := { name := "fnTurns", fn := fun _ => fun
  | [d] => { results := [.lit (.bool false)], args := [d] }
  | _ => none }
def FnTurnsWrongFalsely : Prop := fnTurnsRow.holds Try.pinned (OpenSpec.ofChange fnTurnsWrong)

/-- 'laws.FnWayFull': WHATEVER THE INPUT: true; the input reads as it did. -/
def fnWayFullSpec : ChangeSpec := { name := "fnWayFull", fn := fun _ => fun
  | [d] => { results := [.lit (.bool true)], args := [d] }
  | _ => none }
def fnWayFullRow : OpenClaim := { program := "ytfiaidphcecnhaa", sum := "05dbb2a2c3326fd11bff2f4b8e0ddadd67fd9eebaa79f0d37bab73a1a496a8f1", func := "loop.example/mirrorgrids/laws.FnWayFull", spec := "fnWayFull", apart := false }
def FnWayFullSaid : Prop := fnWayFullRow.holds Try.pinned (OpenSpec.ofChange fnWayFullSpec)

/-- ITS FALSE NEIGHBOUR: 'it returns false'. Refute it at one input. -/
def fnWayFullWrong : ChangeSpec := { name := "fnWayFull", fn := fun _ => fun
  | [d] => { results := [.lit (.bool false)], args := [d] }
  | _ => none }
def FnWayFullWrongFalsely : Prop := fnWayFullRow.holds Try.pinned (OpenSpec.ofChange fnWayFullWrong)

/-- 'laws.FnTwice': WHATEVER THE INPUT: true; the input reads as it did. -/
def fnTwiceSpec : ChangeSpec := { name := "fnTwice", fn := fun _ => fun
  | [d] => { results := [.lit (.bool true)], args := [d] }
  | _ => none }
def fnTwiceRow : OpenClaim := { program := "ytfiaidphcecnhaa", sum := "05dbb2a2c3326fd11bff2f4b8e0ddadd67fd9eebaa79f0d37bab73a1a496a8f1", func := "loop.example/mirrorgrids/laws.FnTwice", spec := "fnTwice", apart := false }
def FnTwiceSaid : Prop := fnTwiceRow.holds Try.pinned (OpenSpec.ofChange fnTwiceSpec)

/-- ITS FALSE NEIGHBOUR: 'it returns false'. Refute it at one input. -/
def fnTwiceWrong : ChangeSpec := { name := "fnTwice", fn := fun _ => fun
  | [d] => { results := [.lit (.bool false)], args := [d] }
  | _ => none }
def FnTwiceWrongFalsely : Prop := fnTwiceRow.holds Try.pinned (OpenSpec.ofChange fnTwiceWrong)

/-- 'laws.FnNoFirst': WHATEVER THE INPUT: true; the input reads as it did. -/
def fnNoFirstSpec : ChangeSpec := { name := "fnNoFirst", fn := fun _ => fun
  | [d] => { results := [.lit (.bool true)], args := [d] }
  | _ => none }
def fnNoFirstRow : OpenClaim := { program := "ytfiaidphcecnhaa", sum := "05dbb2a2c3326fd11bff2f4b8e0ddadd67fd9eebaa79f0d37bab73a1a496a8f1", func := "loop.example/mirrorgrids/laws.FnNoFirst", spec := "fnNoFirst", apart := false }
def FnNoFirstSaid : Prop := fnNoFirstRow.holds Try.pinned (OpenSpec.ofChange fnNoFirstSpec)

/-- ITS FALSE NEIGHBOUR: 'it returns false'. Refute it at one input. -/
def fnNoFirstWrong : ChangeSpec := { name := "fnNoFirst", fn := fun _ => fun
  | [d] => { results := [.lit (.bool false)], args := [d] }
  | _ => none }
def FnNoFirstWrongFalsely : Prop := fnNoFirstRow.holds Try.pinned (OpenSpec.ofChange fnNoFirstWrong)

/-- 'laws.FnMeets': WHATEVER THE INPUT: true; the input reads as it did. -/
def fnMeetsSpec : ChangeSpec := { name := "fnMeets", fn := fun _ => fun
  | [d] => { results := [.lit (.bool true)], args := [d] }
  | _ => none }
def fnMeetsRow : OpenClaim := { program := "ytfiaidphcecnhaa", sum := "05dbb2a2c3326fd11bff2f4b8e0ddadd67fd9eebaa79f0d37bab73a1a496a8f1", func := "loop.example/mirrorgrids/laws.FnMeets", spec := "fnMeets", unfollowed := true, recurses := true, apart := false }
def FnMeetsSaid : Prop := fnMeetsRow.holds Try.pinned (OpenSpec.ofChange fnMeetsSpec)

/-- ITS FALSE NEIGHBOUR: 'it returns false'. Refute it at one input. -/
def fnMeetsWrong : ChangeSpec := { name := "fnMeets", fn := fun _ => fun
  | [d] => { results := [.lit (.bool false)], args := [d] }
  | _ => none }
def FnMeetsWrongFalsely : Prop := fnMeetsRow.holds Try.pinned (OpenSpec.ofChange fnMeetsWrong)

/-- 'laws.FnExactRoundCells': WHATEVER THE INPUT: true; the input reads as it did. -/
def fnExactRoundCellsSpec : ChangeSpec := { name := "fnExactRoundCells", fn := fun _ => fun
  | [d1, d2, d3] => { results := [.lit (.bool true)], args := [d1, d2, d3] }
  | _ => none }
def fnExactRoundCellsRow : OpenClaim := { program := "ytfiaidphcecnhaa", sum := "05dbb2a2c3326fd11bff2f4b8e0ddadd67fd9eebaa79f0d37bab73a1a496a8f1", func := "loop.example/mirrorgrids/laws.FnExactRoundCells", spec := "fnExactRoundCells", apart := false }
def FnExactRoundCellsSaid : Prop := fnExactRoundCellsRow.holds Try.pinned (OpenSpec.ofChange fnExactRoundCellsSpec)

/-- ITS FALSE NEIGHBOUR: 'it returns false'. Refute it at one input. -/
def fnExactRoundCellsWrong : ChangeSpec := { name := "fnExactRoundCells", fn := fun _ => fun
  | [d1, d2, d3] => { results := [.lit (.bool false)], args := [d1, d2, d3] }
  | _ => none }
def FnExactRoundCellsWrongFalsely : Prop := fnExactRoundCellsRow.holds Try.pinned (OpenSpec.ofChange fnExactRoundCellsWrong)

/- THE SECOND FORM. 'bulk': how many values and letters a reading holds, each counted each time it is reached (what is shared counts as often as it is met; a slice's spare places count too). A statement '..UptoSaid' is the law's where the arguments, and the package variables that the reading takes, are together of bulk at most 1048576: NARROWER than '..Said'. Prove '..Said' where nothing that the law and all that it calls make is longer than what came in: it says more and counts as full. Else prove '..UptoSaid'. A law counts once. -/
mutual
def uptoBulk {H : Type} : DataW H → Nat
  | .lit (.string bytes) => bytes.length + 1
  | .lit _ => 1
  | .nil => 1
  | .ptr d => uptoBulk d + 1
  | .slice elems spare => uptoBulkAll elems + uptoBulkAll spare + 1
  | .agg parts => uptoBulkAll parts + 1
  | .iface _ d => uptoBulk d + 1
  | .map entries => uptoBulkEntries entries + 1
  | .held _ => 1
def uptoBulkAll {H : Type} : List (DataW H) → Nat
  | [] => 0
  | d :: r => uptoBulk d + uptoBulkAll r
def uptoBulkEntries {H : Type} : List (Lit × DataW H) → Nat
  | [] => 0
  | x :: r => uptoBulkEntry x + uptoBulkEntries r
def uptoBulkEntry {H : Type} : Lit × DataW H → Nat
  | (.string bytes, d) => bytes.length + uptoBulk d + 1
  | (_, d) => uptoBulk d + 1
 end
def uptoSmall : (H : Type) → List (DataW H) → Bool := fun _ ds => decide (uptoBulkAll ds ≤ 1048576)
def OpenSpec.upto (s : _root_.Go.ChangeSpec) : _root_.Go.OpenSpec := { _root_.Go.OpenSpec.ofChange s with cond := some uptoSmall }

/-- 'laws.FnExactBeamSides', WHERE WHAT IT READS IS OF BULK AT MOST 1048576: true; the input reads as it did. -/
def fnExactBeamSidesUptoRow : OpenClaim := { program := "ytfiaidphcecnhaa", sum := "05dbb2a2c3326fd11bff2f4b8e0ddadd67fd9eebaa79f0d37bab73a1a496a8f1", func := "loop.example/mirrorgrids/laws.FnExactBeamSides", spec := "fnExactBeamSides", apart := false, narrowed := true }
def FnExactBeamSidesUptoSaid : Prop := fnExactBeamSidesUptoRow.holds Try.pinned (OpenSpec.upto fnExactBeamSidesSpec)

/-- 'laws.FnLongest', WHERE WHAT IT READS IS OF BULK AT MOST 1048576: true; the input reads as it did. -/
def fnLongestUptoRow : OpenClaim := { program := "ytfiaidphcecnhaa", sum := "05dbb2a2c3326fd11bff2f4b8e0ddadd67fd9eebaa79f0d37bab73a1a496a8f1", func := "loop.example/mirrorgrids/laws.FnLongest", spec := "fnLongest", apart := false, narrowed := true }
def FnLongestUptoSaid : Prop := fnLongestUptoRow.holds Try.pinned (OpenSpec.upto fnLongestSpec)

/-- 'laws.FnExactBeamPairs', WHERE WHAT IT READS IS OF BULK AT MOST 1048576: true; the input reads as it did. -/
def fnExactBeamPairsUptoRow : OpenClaim := { program := "ytfiaidphcecnhaa", sum := "05dbb2a2c3326fd11bff2f4b8e0ddadd67fd9eebaa79f0d37bab73a1a496a8f1", func := "loop.example/mirrorgrids/laws.FnExactBeamPairs", spec := "fnExactBeamPairs", apart := false, narrowed := true }
def FnExactBeamPairsUptoSaid : Prop := fnExactBeamPairsUptoRow.holds Try.pinned (OpenSpec.upto fnExactBeamPairsSpec)

/-- 'laws.FnLength', WHERE WHAT IT READS IS OF BULK AT MOST 1048576: true; the input reads as it did. -/
def fnLengthUptoRow : OpenClaim := { program := "ytfiaidphcecnhaa", sum := "05dbb2a2c3326fd11bff2f4b8e0ddadd67fd9eebaa79f0d37bab73a1a496a8f1", func := "loop.example/mirrorgrids/laws.FnLength", spec := "fnLength", apart := false, narrowed := true }
def FnLengthUptoSaid : Prop := fnLengthUptoRow.holds Try.pinned (OpenSpec.upto fnLengthSpec)

/-- 'laws.FnSides', WHERE WHAT IT READS IS OF BULK AT MOST 1048576: true; the input reads as it did. -/
def fnSidesUptoRow : OpenClaim := { program := "ytfiaidphcecnhaa", sum := "05dbb2a2c3326fd11bff2f4b8e0ddadd67fd9eebaa79f0d37bab73a1a496a8f1", func := "loop.example/mirrorgrids/laws.FnSides", spec := "fnSides", apart := false, narrowed := true }
def FnSidesUptoSaid : Prop := fnSidesUptoRow.holds Try.pinned (OpenSpec.upto fnSidesSpec)

/-- 'laws.FnFirst', WHERE WHAT IT READS IS OF BULK AT MOST 1048576: true; the input reads as it did. -/
def fnFirstUptoRow : OpenClaim := { program := "ytfiaidphcecnhaa", sum := "05dbb2a2c3326fd11bff2f4b8e0ddadd67fd9eebaa79f0d37bab73a1a496a8f1", func := "loop.example/mirrorgrids/laws.FnFirst", spec := "fnFirst", apart := false, narrowed := true }
def FnFirstUptoSaid : Prop := fnFirstUptoRow.holds Try.pinned (OpenSpec.upto fnFirstSpec)

/-- 'laws.FnTurns', WHERE WHAT IT READS IS OF BULK AT MOST 1048576: true; the input reads as it did. -/
def fnTurnsUptoRow : OpenClaim := { program := "ytfiaidphcecnhaa", sum := "05dbb2a2c3326fd11bff2f4b8e0ddadd67fd9eebaa79f0d37bab73a1a496a8f1", func := "loop.example/mirrorgrids/laws.FnTurns", spec := "fnTurns", apart := false, narrowed := true }
def FnTurnsUptoSaid : Prop := fnTurnsUptoRow.holds Try.pinned (OpenSpec.upto fnTurnsSpec)

/-- 'laws.FnWayFull', WHERE WHAT IT READS IS OF BULK AT MOST 1048576: true; the input reads as it did. -/
def fnWayFullUptoRow : OpenClaim := { program := "ytfiaidphcecnhaa", sum := "05dbb2a2c3326fd11bff2f4b8e0ddadd67fd9eebaa79f0d37bab73a1a496a8f1", func := "loop.example/mirrorgrids/laws.FnWayFull", spec := "fnWayFull", apart := false, narrowed := true }
def FnWayFullUptoSaid : Prop := fnWayFullUptoRow.holds Try.pinned (OpenSpec.upto fnWayFullSpec)

/-- 'laws.FnTwice', WHERE WHAT IT READS IS OF BULK AT MOST 1048576: true; the input reads as it did. -/
def fnTwiceUptoRow : OpenClaim := { program := "ytfiaidphcecnhaa", sum := "05dbb2a2c3326fd11bff2f4b8e0ddadd67fd9eebaa79f0d37bab73a1a496a8f1", func := "loop.example/mirrorgrids/laws.FnTwice", spec := "fnTwice", apart := false, narrowed := true }
def FnTwiceUptoSaid : Prop := fnTwiceUptoRow.holds Try.pinned (OpenSpec.upto fnTwiceSpec)

/-- 'laws.FnNoFirst', WHERE WHAT IT READS IS OF BULK AT MOST 1048576: true; the input reads as it did. -/
def fnNoFirstUptoRow : OpenClaim := { program := "ytfiaidphcecnhaa", sum := "05dbb2a2c3326fd11bff2f4b8e0ddadd67fd9eebaa79f0d37bab73a1a496a8f1", func := "loop.example/mirrorgrids/laws.FnNoFirst", spec := "fnNoFirst", apart := false, narrowed := true }
def FnNoFirstUptoSaid : Prop := fnNoFirstUptoRow.holds Try.pinned (OpenSpec.upto fnNoFirstSpec)

/-- 'laws.FnMeets', WHERE WHAT IT READS IS OF BULK AT MOST 1048576: true; the input reads as it did. -/
def fnMeetsUptoRow : OpenClaim := { program := "ytfiaidphcecnhaa", sum := "05dbb2a2c3326fd11bff2f4b8e0ddadd67fd9eebaa79f0d37bab73a1a496a8f1", func := "loop.example/mirrorgrids/laws.FnMeets", spec := "fnMeets", unfollowed := true, recurses := true, apart := false, narrowed := true }
def FnMeetsUptoSaid : Prop := fnMeetsUptoRow.holds Try.pinned (OpenSpec.upto fnMeetsSpec)

/-- 'laws.FnExactRoundCells', WHERE WHAT IT READS IS OF BULK AT MOST 1048576: true; the input reads as it did. -/
def fnExactRoundCellsUptoRow : OpenClaim := { program := "ytfiaidphcecnhaa", sum := "05dbb2a2c3326fd11bff2f4b8e0ddadd67fd9eebaa79f0d37bab73a1a496a8f1", func := "loop.example/mirrorgrids/laws.FnExactRoundCells", spec := "fnExactRoundCells", apart := false, narrowed := true }
def FnExactRoundCellsUptoSaid : Prop := fnExactRoundCellsUptoRow.holds Try.pinned (OpenSpec.upto fnExactRoundCellsSpec)

end Rows
end Go.Proofs.Ytfiaidphcecnhaa
