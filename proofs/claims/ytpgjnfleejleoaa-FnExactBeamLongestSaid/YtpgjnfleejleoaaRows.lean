/-
  No cell of these rows narrows 'for every input' (looked for: loops, veiled, ifaces, maps, wideKeys, modest, calm, conditions, laid).
  DERIVED. THE GIVEN ROWS OF THIS SEAT. 12 by the template 'for every input the law returns true; each argument reads behind the call as it read before'; 0 by the template 'total and deterministic' (their statements: YtpgjnfleejleoaaTotals.lean).
  GIVEN WITH THE SEED: the statements are not yours to turn. If you find one false, say at which input.
  Laid BY PROGRAM, IN A SANDBOX (cutbox-rows.mjs): the forced cells as the released guide's own fill.sh prints them over the translation 65fea24f2ef65338… (all of the seat's roots in one cut). By AI agents, Wed Nov 11 2026. No macro, syntax, notation, axiom, sorry.
-/
import Derived.Test.YtpgjnfleejleoaaChecked
import GoSem.Claim
import GoSem.ClaimJoined
import GoSem.ClaimMapViews
import Derived.JoinedTies
import Derived.KernelRfl
namespace Go.Proofs.Ytpgjnfleejleoaa
/- THE CELL 'sum', in the pinned program and in every row, IS THE sha256 OF THE DUMP (.gsa) THAT YtpgjnfleejleoaaProg.lean LOADS. Nothing in Lean hashes anything: it is a label: what it is worth is what the hold of that sum in a sandbox is worth. -/
noncomputable def Try.pinned : Pinned := { name := "ytpgjnfleejleoaa", sum := "65fea24f2ef653380f08fa5216f85ca072b5b587e4631f322f9b67c1bdce6f3c", checked := Try.checked }
namespace Rows
def none {H : Type} : Left H := { results := [], args := [] }

/-- 'laws.FnTurn': WHATEVER THE INPUT: true; the input reads as it did. -/
def fnTurnSpec : ChangeSpec := { name := "fnTurn", fn := fun _ => fun
  | [d] => { results := [.lit (.bool true)], args := [d] }
  | _ => none }
def fnTurnRow : OpenClaim := { program := "ytpgjnfleejleoaa", sum := "65fea24f2ef653380f08fa5216f85ca072b5b587e4631f322f9b67c1bdce6f3c", func := "loop.example/mirrorgrids/laws.FnTurn", spec := "fnTurn", unfollowed := true, recurses := true, apart := false }
def FnTurnSaid : Prop := fnTurnRow.holds Try.pinned (OpenSpec.ofChange fnTurnSpec)

/-- ITS FALSE NEIGHBOUR: 'it returns false'. Refute it at one input. -/
def fnTurnWrong : ChangeSpec := { name := "fnTurn", fn := fun _ => fun
  | [d] => { results := [.lit (.bool false)], args := [d] }
  | _ => none }
def FnTurnWrongFalsely : Prop := fnTurnRow.holds Try.pinned (OpenSpec.ofChange fnTurnWrong)

/-- 'laws.FnFull': WHATEVER THE INPUT: true; the input reads as it did. -/
def fnFullSpec : ChangeSpec := { name := "fnFull", fn := fun _ => fun
  | [d] => { results := [.lit (.bool true)], args := [d] }
  | _ => none }
def fnFullRow : OpenClaim := { program := "ytpgjnfleejleoaa", sum := "65fea24f2ef653380f08fa5216f85ca072b5b587e4631f322f9b67c1bdce6f3c", func := "loop.example/mirrorgrids/laws.FnFull", spec := "fnFull", unfollowed := true, recurses := true, apart := false }
def FnFullSaid : Prop := fnFullRow.holds Try.pinned (OpenSpec.ofChange fnFullSpec)

/-- ITS FALSE NEIGHBOUR: 'it returns false'. Refute it at one input. -/
def fnFullWrong : ChangeSpec := { name := "fnFull", fn := fun _ => fun
  | [d] => { results := [.lit (.bool false)], args := [d] }
  | _ => none }
def FnFullWrongFalsely : Prop := fnFullRow.holds Try.pinned (OpenSpec.ofChange fnFullWrong)

/-- 'laws.FnExactBeamEnd': WHATEVER THE INPUT: true; the input reads as it did. -/
def fnExactBeamEndSpec : ChangeSpec := { name := "fnExactBeamEnd", fn := fun _ => fun
  | [d1, d2] => { results := [.lit (.bool true)], args := [d1, d2] }
  | _ => none }
def fnExactBeamEndRow : OpenClaim := { program := "ytpgjnfleejleoaa", sum := "65fea24f2ef653380f08fa5216f85ca072b5b587e4631f322f9b67c1bdce6f3c", func := "loop.example/mirrorgrids/laws.FnExactBeamEnd", spec := "fnExactBeamEnd", apart := false }
def FnExactBeamEndSaid : Prop := fnExactBeamEndRow.holds Try.pinned (OpenSpec.ofChange fnExactBeamEndSpec)

/-- ITS FALSE NEIGHBOUR: 'it returns false'. Refute it at one input. -/
def fnExactBeamEndWrong : ChangeSpec := { name := "fnExactBeamEnd", fn := fun _ => fun
  | [d1, d2] => { results := [.lit (.bool false)], args := [d1, d2] }
  | _ => none }
def FnExactBeamEndWrongFalsely : Prop := fnExactBeamEndRow.holds Try.pinned (OpenSpec.ofChange fnExactBeamEndWrong)

/-- 'laws.FnExactBeamLength': WHATEVER THE INPUT: true; the input reads as it did. -/
def fnExactBeamLengthSpec : ChangeSpec := { name := "fnExactBeamLength", fn := fun _ => fun
  | [d1, d2] => { results := [.lit (.bool true)], args := [d1, d2] }
  | _ => none }
def fnExactBeamLengthRow : OpenClaim := { program := "ytpgjnfleejleoaa", sum := "65fea24f2ef653380f08fa5216f85ca072b5b587e4631f322f9b67c1bdce6f3c", func := "loop.example/mirrorgrids/laws.FnExactBeamLength", spec := "fnExactBeamLength", apart := false }
def FnExactBeamLengthSaid : Prop := fnExactBeamLengthRow.holds Try.pinned (OpenSpec.ofChange fnExactBeamLengthSpec)

/-- ITS FALSE NEIGHBOUR: 'it returns false'. Refute it at one input. -/
def fnExactBeamLengthWrong : ChangeSpec := { name := "fnExactBeamLength", fn := fun _ => fun
  | [d1, d2] => { results := [.lit (.bool false)], args := [d1, d2] }
  | _ => none }
def FnExactBeamLengthWrongFalsely : Prop := fnExactBeamLengthRow.holds Try.pinned (OpenSpec.ofChange fnExactBeamLengthWrong)

/-- 'laws.FnExactBeamFirst': WHATEVER THE INPUT: true; the input reads as it did. -/
def fnExactBeamFirstSpec : ChangeSpec := { name := "fnExactBeamFirst", fn := fun _ => fun
  | [d1, d2] => { results := [.lit (.bool true)], args := [d1, d2] }
  | _ => none }
def fnExactBeamFirstRow : OpenClaim := { program := "ytpgjnfleejleoaa", sum := "65fea24f2ef653380f08fa5216f85ca072b5b587e4631f322f9b67c1bdce6f3c", func := "loop.example/mirrorgrids/laws.FnExactBeamFirst", spec := "fnExactBeamFirst", apart := false }
def FnExactBeamFirstSaid : Prop := fnExactBeamFirstRow.holds Try.pinned (OpenSpec.ofChange fnExactBeamFirstSpec)

/-- ITS FALSE NEIGHBOUR: 'it returns false'. Refute it at one input. -/
def fnExactBeamFirstWrong : ChangeSpec := { name := "fnExactBeamFirst", fn := fun _ => fun
  | [d1, d2] => { results := [.lit (.bool false)], args := [d1, d2] }
  | _ => none }
def FnExactBeamFirstWrongFalsely : Prop := fnExactBeamFirstRow.holds Try.pinned (OpenSpec.ofChange fnExactBeamFirstWrong)

/-- 'laws.FnEnd': WHATEVER THE INPUT: true; the input reads as it did. -/
def fnEndSpec : ChangeSpec := { name := "fnEnd", fn := fun _ => fun
  | [d] => { results := [.lit (.bool true)], args := [d] }
  | _ => none }
def fnEndRow : OpenClaim := { program := "ytpgjnfleejleoaa", sum := "65fea24f2ef653380f08fa5216f85ca072b5b587e4631f322f9b67c1bdce6f3c", func := "loop.example/mirrorgrids/laws.FnEnd", spec := "fnEnd", apart := false }
def FnEndSaid : Prop := fnEndRow.holds Try.pinned (OpenSpec.ofChange fnEndSpec)

/-- ITS FALSE NEIGHBOUR: 'it returns false'. Refute it at one input. -/
def fnEndWrong : ChangeSpec := { name := "fnEnd", fn := fun _ => fun
  | [d] => { results := [.lit (.bool false)], args := [d] }
  | _ => none }
def FnEndWrongFalsely : Prop := fnEndRow.holds Try.pinned (OpenSpec.ofChange fnEndWrong)

/-- 'laws.FnExactBeamTurns': WHATEVER THE INPUT: true; the input reads as it did. -/
def fnExactBeamTurnsSpec : ChangeSpec := { name := "fnExactBeamTurns", fn := fun _ => fun
  | [d1, d2] => { results := [.lit (.bool true)], args := [d1, d2] }
  | _ => none }
def fnExactBeamTurnsRow : OpenClaim := { program := "ytpgjnfleejleoaa", sum := "65fea24f2ef653380f08fa5216f85ca072b5b587e4631f322f9b67c1bdce6f3c", func := "loop.example/mirrorgrids/laws.FnExactBeamTurns", spec := "fnExactBeamTurns", apart := false }
def FnExactBeamTurnsSaid : Prop := fnExactBeamTurnsRow.holds Try.pinned (OpenSpec.ofChange fnExactBeamTurnsSpec)

/-- ITS FALSE NEIGHBOUR: 'it returns false'. Refute it at one input. -/
def fnExactBeamTurnsWrong : ChangeSpec := { name := "fnExactBeamTurns", fn := fun _ => fun
  | [d1, d2] => { results := [.lit (.bool false)], args := [d1, d2] }
  | _ => none }
def FnExactBeamTurnsWrongFalsely : Prop := fnExactBeamTurnsRow.holds Try.pinned (OpenSpec.ofChange fnExactBeamTurnsWrong)

/-- 'laws.FnExactBeamLongest': WHATEVER THE INPUT: true; the input reads as it did. -/
def fnExactBeamLongestSpec : ChangeSpec := { name := "fnExactBeamLongest", fn := fun _ => fun
  | [d] => { results := [.lit (.bool true)], args := [d] }
  | _ => none }
def fnExactBeamLongestRow : OpenClaim := { program := "ytpgjnfleejleoaa", sum := "65fea24f2ef653380f08fa5216f85ca072b5b587e4631f322f9b67c1bdce6f3c", func := "loop.example/mirrorgrids/laws.FnExactBeamLongest", spec := "fnExactBeamLongest", apart := false }
def FnExactBeamLongestSaid : Prop := fnExactBeamLongestRow.holds Try.pinned (OpenSpec.ofChange fnExactBeamLongestSpec)

/-- ITS FALSE NEIGHBOUR: 'it returns false'. Refute it at one input. -/
def fnExactBeamLongestWrong : ChangeSpec := { name := "fnExactBeamLongest", fn := fun _ => fun
  | [d] => { results := [.lit (.bool false)], args := [d] }
  | _ => none }
def FnExactBeamLongestWrongFalsely : Prop := fnExactBeamLongestRow.holds Try.pinned (OpenSpec.ofChange fnExactBeamLongestWrong)

/-- 'laws.FnExactBeamTwice': WHATEVER THE INPUT: true; the input reads as it did. -/
def fnExactBeamTwiceSpec : ChangeSpec := { name := "fnExactBeamTwice", fn := fun _ => fun
  | [d1, d2] => { results := [.lit (.bool true)], args := [d1, d2] }
  | _ => none }
def fnExactBeamTwiceRow : OpenClaim := { program := "ytpgjnfleejleoaa", sum := "65fea24f2ef653380f08fa5216f85ca072b5b587e4631f322f9b67c1bdce6f3c", func := "loop.example/mirrorgrids/laws.FnExactBeamTwice", spec := "fnExactBeamTwice", apart := false }
def FnExactBeamTwiceSaid : Prop := fnExactBeamTwiceRow.holds Try.pinned (OpenSpec.ofChange fnExactBeamTwiceSpec)

/-- ITS FALSE NEIGHBOUR: 'it returns false'. Refute it at one input. -/
def fnExactBeamTwiceWrong : ChangeSpec := { name := "fnExactBeamTwice", fn := fun _ => fun
  | [d1, d2] => { results := [.lit (.bool false)], args := [d1, d2] }
  | _ => none }
def FnExactBeamTwiceWrongFalsely : Prop := fnExactBeamTwiceRow.holds Try.pinned (OpenSpec.ofChange fnExactBeamTwiceWrong)

/-- 'laws.FnExactBeamMeets': WHATEVER THE INPUT: true; the input reads as it did. -/
def fnExactBeamMeetsSpec : ChangeSpec := { name := "fnExactBeamMeets", fn := fun _ => fun
  | [d1, d2, d3] => { results := [.lit (.bool true)], args := [d1, d2, d3] }
  | _ => none }
def fnExactBeamMeetsRow : OpenClaim := { program := "ytpgjnfleejleoaa", sum := "65fea24f2ef653380f08fa5216f85ca072b5b587e4631f322f9b67c1bdce6f3c", func := "loop.example/mirrorgrids/laws.FnExactBeamMeets", spec := "fnExactBeamMeets", unfollowed := true, recurses := true, apart := false }
def FnExactBeamMeetsSaid : Prop := fnExactBeamMeetsRow.holds Try.pinned (OpenSpec.ofChange fnExactBeamMeetsSpec)

/-- ITS FALSE NEIGHBOUR: 'it returns false'. Refute it at one input. -/
def fnExactBeamMeetsWrong : ChangeSpec := { name := "fnExactBeamMeets", fn := fun _ => fun
  | [d1, d2, d3] => { results := [.lit (.bool false)], args := [d1, d2, d3] }
  | _ => none }
def FnExactBeamMeetsWrongFalsely : Prop := fnExactBeamMeetsRow.holds Try.pinned (OpenSpec.ofChange fnExactBeamMeetsWrong)

/-- 'laws.FnExactBeamWay': WHATEVER THE INPUT: true; the input reads as it did. -/
def fnExactBeamWaySpec : ChangeSpec := { name := "fnExactBeamWay", fn := fun _ => fun
  | [d1, d2] => { results := [.lit (.bool true)], args := [d1, d2] }
  | _ => none }
def fnExactBeamWayRow : OpenClaim := { program := "ytpgjnfleejleoaa", sum := "65fea24f2ef653380f08fa5216f85ca072b5b587e4631f322f9b67c1bdce6f3c", func := "loop.example/mirrorgrids/laws.FnExactBeamWay", spec := "fnExactBeamWay", apart := false }
def FnExactBeamWaySaid : Prop := fnExactBeamWayRow.holds Try.pinned (OpenSpec.ofChange fnExactBeamWaySpec)

/-- ITS FALSE NEIGHBOUR: 'it returns false'. Refute it at one input. -/
def fnExactBeamWayWrong : ChangeSpec := { name := "fnExactBeamWay", fn := fun _ => fun
  | [d1, d2] => { results := [.lit (.bool false)], args := [d1, d2] }
  | _ => none }
def FnExactBeamWayWrongFalsely : Prop := fnExactBeamWayRow.holds Try.pinned (OpenSpec.ofChange fnExactBeamWayWrong)

/-- 'laws.FnWay': WHATEVER THE INPUT: true; the input reads as it did. -/
def fnWaySpec : ChangeSpec := { name := "fnWay", fn := fun _ => fun
  | [d] => { results := [.lit (.bool true)], args := [d] }
  | _ => none }
def fnWayRow : OpenClaim := { program := "ytpgjnfleejleoaa", sum := "65fea24f2ef653380f08fa5216f85ca072b5b587e4631f322f9b67c1bdce6f3c", func := "loop.example/mirrorgrids/laws.FnWay", spec := "fnWay", apart := false }
def FnWaySaid : Prop := fnWayRow.holds Try.pinned (OpenSpec.ofChange fnWaySpec)

/-- ITS FALSE NEIGHBOUR: 'it returns false'. Refute it at one input. -/
def fnWayWrong : ChangeSpec := { name := "fnWay", fn := fun _ => fun
  | [d] => { results := [.lit (.bool false)], args := [d] }
  | _ => none }
def FnWayWrongFalsely : Prop := fnWayRow.holds Try.pinned (OpenSpec.ofChange fnWayWrong)

/- THE SECOND FORM. 'bulk': how many values and letters a reading holds, each counted each time it is reached (what is shared counts as often as it is met; a slice's spare places count too). A statement '..UptoSaid' is the law's where the arguments, and the package variables that the reading takes, are together of bulk at most 1048576: NARROWER than '..Said'. Prove '..Said' where nothing that the law and all that it calls make is longer than what came in: it says more and counts as full. Else prove '..UptoSaid'. A law counts once. -/
mutual
def uptoBulk {H : Type} : DataW H → Nat
  | .lit (.string bytes) => bytes.length + 1
  | .lit _ => 1
  | .nil => 1
  | .ptr d => uptoBulk d + 1
  | .slice elems spare => uptoBulkAll elems + uptoBulkAll spare + 1
  | .agg parts => uptoBulkAll parts + 1
  | .iface _ d => uptoBulk d + 1
  | .map entries => uptoBulkEntries entries + 1
  | .held _ => 1
def uptoBulkAll {H : Type} : List (DataW H) → Nat
  | [] => 0
  | d :: r => uptoBulk d + uptoBulkAll r
def uptoBulkEntries {H : Type} : List (Lit × DataW H) → Nat
  | [] => 0
  | x :: r => uptoBulkEntry x + uptoBulkEntries r
def uptoBulkEntry {H : Type} : Lit × DataW H → Nat
  | (.string bytes, d) => bytes.length + uptoBulk d + 1
  | (_, d) => uptoBulk d + 1
 end
def uptoSmall : (H : Type) → List (DataW H) → Bool := fun _ ds => decide (uptoBulkAll ds ≤ 1048576)
def OpenSpec.upto (s : _root_.Go.ChangeSpec) : _root_.Go.OpenSpec := { _root_.Go.OpenSpec.ofChange s with cond := some uptoSmall }

/-- 'laws.FnTurn', WHERE WHAT IT READS IS OF BULK AT MOST 1048576: true; the input reads as it did. -/
def fnTurnUptoRow : OpenClaim := { program := "ytpgjnfleejleoaa", sum := "65fea24f2ef653380f08fa5216f85ca072b5b587e4631f322f9b67c1bdce6f3c", func := "loop.example/mirrorgrids/laws.FnTurn", spec := "fnTurn", unfollowed := true, recurses := true, apart := false, narrowed := true }
def FnTurnUptoSaid : Prop := fnTurnUptoRow.holds Try.pinned (OpenSpec.upto fnTurnSpec)

/-- 'laws.FnFull', WHERE WHAT IT READS IS OF BULK AT MOST 1048576: true; the input reads as it did. -/
def fnFullUptoRow : OpenClaim := { program := "ytpgjnfleejleoaa", sum := "65fea24f2ef653380f08fa5216f85ca072b5b587e4631f322f9b67c1bdce6f3c", func := "loop.example/mirrorgrids/laws.FnFull", spec := "fnFull", unfollowed := true, recurses := true, apart := false, narrowed := true }
def FnFullUptoSaid : Prop := fnFullUptoRow.holds Try.pinned (OpenSpec.upto fnFullSpec)

/-- 'laws.FnExactBeamEnd', WHERE WHAT IT READS IS OF BULK AT MOST 1048576: true; the input reads as it did. -/
def fnExactBeamEndUptoRow : OpenClaim := { program := "ytpgjnfleejleoaa", sum := "65fea24f2ef653380f08fa5216f85ca072b5b587e4631f322f9b67c1bdce6f3c", func := "loop.example/mirrorgrids/laws.FnExactBeamEnd", spec := "fnExactBeamEnd", apart := false, narrowed := true }
def FnExactBeamEndUptoSaid : Prop := fnExactBeamEndUptoRow.holds Try.pinned (OpenSpec.upto fnExactBeamEndSpec)

/-- 'laws.FnExactBeamLength', WHERE WHAT IT READS IS OF BULK AT MOST 1048576: true; the input reads as it did. -/
def fnExactBeamLengthUptoRow : OpenClaim := { program := "ytpgjnfleejleoaa", sum := "65fea24f2ef653380f08fa5216f85ca072b5b587e4631f322f9b67c1bdce6f3c", func := "loop.example/mirrorgrids/laws.FnExactBeamLength", spec := "fnExactBeamLength", apart := false, narrowed := true }
def FnExactBeamLengthUptoSaid : Prop := fnExactBeamLengthUptoRow.holds Try.pinned (OpenSpec.upto fnExactBeamLengthSpec)

/-- 'laws.FnExactBeamFirst', WHERE WHAT IT READS IS OF BULK AT MOST 1048576: true; the input reads as it did. -/
def fnExactBeamFirstUptoRow : OpenClaim := { program := "ytpgjnfleejleoaa", sum := "65fea24f2ef653380f08fa5216f85ca072b5b587e4631f322f9b67c1bdce6f3c", func := "loop.example/mirrorgrids/laws.FnExactBeamFirst", spec := "fnExactBeamFirst", apart := false, narrowed := true }
def FnExactBeamFirstUptoSaid : Prop := fnExactBeamFirstUptoRow.holds Try.pinned (OpenSpec.upto fnExactBeamFirstSpec)

/-- 'laws.FnEnd', WHERE WHAT IT READS IS OF BULK AT MOST 1048576: true; the input reads as it did. -/
def fnEndUptoRow : OpenClaim := { program := "ytpgjnfleejleoaa", sum := "65fea24f2ef653380f08fa5216f85ca072b5b587e4631f322f9b67c1bdce6f3c", func := "loop.example/mirrorgrids/laws.FnEnd", spec := "fnEnd", apart := false, narrowed := true }
def FnEndUptoSaid : Prop := fnEndUptoRow.holds Try.pinned (OpenSpec.upto fnEndSpec)

/-- 'laws.FnExactBeamTurns', WHERE WHAT IT READS IS OF BULK AT MOST 1048576: true; the input reads as it did. -/
def fnExactBeamTurnsUptoRow : OpenClaim := { program := "ytpgjnfleejleoaa", sum := "65fea24f2ef653380f08fa5216f85ca072b5b587e4631f322f9b67c1bdce6f3c", func := "loop.example/mirrorgrids/laws.FnExactBeamTurns", spec := "fnExactBeamTurns", apart := false, narrowed := true }
def FnExactBeamTurnsUptoSaid : Prop := fnExactBeamTurnsUptoRow.holds Try.pinned (OpenSpec.upto fnExactBeamTurnsSpec)

/-- 'laws.FnExactBeamLongest', WHERE WHAT IT READS IS OF BULK AT MOST 1048576: true; the input reads as it did. -/
def fnExactBeamLongestUptoRow : OpenClaim := { program := "ytpgjnfleejleoaa", sum := "65fea24f2ef653380f08fa5216f85ca072b5b587e4631f322f9b67c1bdce6f3c", func := "loop.example/mirrorgrids/laws.FnExactBeamLongest", spec := "fnExactBeamLongest", apart := false, narrowed := true }
def FnExactBeamLongestUptoSaid : Prop := fnExactBeamLongestUptoRow.holds Try.pinned (OpenSpec.upto fnExactBeamLongestSpec)

/-- 'laws.FnExactBeamTwice', WHERE WHAT IT READS IS OF BULK AT MOST 1048576: true; the input reads as it did. -/
def fnExactBeamTwiceUptoRow : OpenClaim := { program := "ytpgjnfleejleoaa", sum := "65fea24f2ef653380f08fa5216f85ca072b5b587e4631f322f9b67c1bdce6f3c", func := "loop.example/mirrorgrids/laws.FnExactBeamTwice", spec := "fnExactBeamTwice", apart := false, narrowed := true }
def FnExactBeamTwiceUptoSaid : Prop := fnExactBeamTwiceUptoRow.holds Try.pinned (OpenSpec.upto fnExactBeamTwiceSpec)

/-- 'laws.FnExactBeamMeets', WHERE WHAT IT READS IS OF BULK AT MOST 1048576: true; the input reads as it did. -/
def fnExactBeamMeetsUptoRow : OpenClaim := { program := "ytpgjnfleejleoaa", sum := "65fea24f2ef653380f08fa5216f85ca072b5b587e4631f322f9b67c1bdce6f3c", func := "loop.example/mirrorgrids/laws.FnExactBeamMeets", spec := "fnExactBeamMeets", unfollowed := true, recurses := true, apart := false, narrowed := true }
def FnExactBeamMeetsUptoSaid : Prop := fnExactBeamMeetsUptoRow.holds Try.pinned (OpenSpec.upto fnExactBeamMeetsSpec)

/-- 'laws.FnExactBeamWay', WHERE WHAT IT READS IS OF BULK AT MOST 1048576: true; the input reads as it did. -/
def fnExactBeamWayUptoRow : OpenClaim := { program := "ytpgjnfleejleoaa", sum := "65fea24f2ef653380f08fa5216f85ca072b5b587e4631f322f9b67c1bdce6f3c", func := "loop.example/mirrorgrids/laws.FnExactBeamWay", spec := "fnExactBeamWay", apart := false, narrowed := true }
def FnExactBeamWayUptoSaid : Prop := fnExactBeamWayUptoRow.holds Try.pinned (OpenSpec.upto fnExactBeamWaySpec)

/-- 'laws.FnWay', WHERE WHAT IT READS IS OF BULK AT MOST 1048576: true; the input reads as it did. -/
def fnWayUptoRow : OpenClaim := { program := "ytpgjnfleejleoaa", sum := "65fea24f2ef653380f08fa5216f85ca072b5b587e4631f322f9b67c1bdce6f3c", func := "loop.example/mirrorgrids/laws.FnWay", spec := "fnWay", apart := false, narrowed := true }
def FnWayUptoSaid : Prop := fnWayUptoRow.holds Try.pinned (OpenSpec.upto fnWaySpec)

end Rows
end Go.Proofs.Ytpgjnfleejleoaa
