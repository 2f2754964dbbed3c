/-
  No cell of these rows narrows 'for every input' (looked for: loops, veiled, ifaces, maps, wideKeys, modest, calm, conditions, laid).
  DERIVED. THE GIVEN ROWS OF THIS SEAT. 12 by the template 'for every input the law returns true; each argument reads behind the call as it read before'; 0 by the template 'total and deterministic' (their statements: YtmbjogjdcghacaaTotals.lean).
  GIVEN WITH THE SEED: the statements are not yours to turn. If you find one false, say at which input.
  Laid BY PROGRAM, IN A SANDBOX (cutbox-rows.mjs): the forced cells as the released guide's own fill.sh prints them over the translation cc62abd7768ba2c2… (all of the seat's roots in one cut). By AI agents, Wed Nov 11 2026. No macro, syntax, notation, axiom, sorry.
-/
import Derived.Test.YtmbjogjdcghacaaChecked
import GoSem.Claim
import GoSem.ClaimJoined
import GoSem.ClaimMapViews
import Derived.JoinedTies
import Derived.KernelRfl
namespace Go.Proofs.Ytmbjogjdcghacaa
/- THE CELL 'sum', in the pinned program and in every row, IS THE sha256 OF THE DUMP (.gsa) THAT YtmbjogjdcghacaaProg.lean LOADS. Nothing in Lean hashes anything: it is a label: what it is worth is what the hold of that sum in a sandbox is worth. -/
noncomputable def Try.pinned : Pinned := { name := "ytmbjogjdcghacaa", sum := "cc62abd7768ba2c29ea146fca2c6ea0a4f05f9adad030041cc6df681e46d6693", checked := Try.checked }
namespace Rows
def none {H : Type} : Left H := { results := [], args := [] }

/-- 'laws.FnExactRoundMost': WHATEVER THE INPUT: true; the input reads as it did. -/
def fnExactRoundMostSpec : ChangeSpec := { name := "fnExactRoundMost", fn := fun _ => fun
  | [d1, d2] => { results := [.lit (.bool true)], args := [d1, d2] }
  | _ => none }
def fnExactRoundMostRow : OpenClaim := { program := "ytmbjogjdcghacaa", sum := "cc62abd7768ba2c29ea146fca2c6ea0a4f05f9adad030041cc6df681e46d6693", func := "loop.example/mirrorgrids/laws.FnExactRoundMost", spec := "fnExactRoundMost", unfollowed := true, recurses := true, plainKeys := false, apart := false }
def FnExactRoundMostSaid : Prop := fnExactRoundMostRow.holds Try.pinned (OpenSpec.ofChange fnExactRoundMostSpec)

/-- ITS FALSE NEIGHBOUR: 'it returns false'. Refute it at one input. -/
def fnExactRoundMostWrong : ChangeSpec := { name := "fnExactRoundMost", fn := fun _ => fun
  | [d1, d2] => { results := [.lit (.bool false)], args := [d1, d2] }
  | _ => none }
def FnExactRoundMostWrongFalsely : Prop := fnExactRoundMostRow.holds Try.pinned (OpenSpec.ofChange fnExactRoundMostWrong)

/-- 'laws.FnExactRoundAt': WHATEVER THE INPUT: true; the input reads as it did. -/
def fnExactRoundAtSpec : ChangeSpec := { name := "fnExactRoundAt", fn := fun _ => fun
  | [d1, d2] => { results := [.lit (.bool true)], args := [d1, d2] }
  | _ => none }
def fnExactRoundAtRow : OpenClaim := { program := "ytmbjogjdcghacaa", sum := "cc62abd7768ba2c29ea146fca2c6ea0a4f05f9adad030041cc6df681e46d6693", func := "loop.example/mirrorgrids/laws.FnExactRoundAt", spec := "fnExactRoundAt", plainKeys := false, apart := false }
def FnExactRoundAtSaid : Prop := fnExactRoundAtRow.holds Try.pinned (OpenSpec.ofChange fnExactRoundAtSpec)

/-- ITS FALSE NEIGHBOUR: 'it returns false'. Refute it at one input. -/
def fnExactRoundAtWrong : ChangeSpec := { name := "fnExactRoundAt", fn := fun _ => fun
  | [d1, d2] => { results := [.lit (.bool false)], args := [d1, d2] }
  | _ => none }
def FnExactRoundAtWrongFalsely : Prop := fnExactRoundAtRow.holds Try.pinned (OpenSpec.ofChange fnExactRoundAtWrong)

/-- 'laws.FnExactRoundLeast': WHATEVER THE INPUT: true; the input reads as it did. -/
def fnExactRoundLeastSpec : ChangeSpec := { name := "fnExactRoundLeast", fn := fun _ => fun
  | [d] => { results := [.lit (.bool true)], args := [d] }
  | _ => none }
def fnExactRoundLeastRow : OpenClaim := { program := "ytmbjogjdcghacaa", sum := "cc62abd7768ba2c29ea146fca2c6ea0a4f05f9adad030041cc6df681e46d6693", func := "loop.example/mirrorgrids/laws.FnExactRoundLeast", spec := "fnExactRoundLeast", plainKeys := false, apart := false }
def FnExactRoundLeastSaid : Prop := fnExactRoundLeastRow.holds Try.pinned (OpenSpec.ofChange fnExactRoundLeastSpec)

/-- ITS FALSE NEIGHBOUR: 'it returns false'. Refute it at one input. -/
def fnExactRoundLeastWrong : ChangeSpec := { name := "fnExactRoundLeast", fn := fun _ => fun
  | [d] => { results := [.lit (.bool false)], args := [d] }
  | _ => none }
def FnExactRoundLeastWrongFalsely : Prop := fnExactRoundLeastRow.holds Try.pinned (OpenSpec.ofChange fnExactRoundLeastWrong)

/-- 'laws.FnExactRoundTwice': WHATEVER THE INPUT: true; the input reads as it did. -/
def fnExactRoundTwiceSpec : ChangeSpec := { name := "fnExactRoundTwice", fn := fun _ => fun
  | [d] => { results := [.lit (.bool true)], args := [d] }
  | _ => none }
def fnExactRoundTwiceRow : OpenClaim := { program := "ytmbjogjdcghacaa", sum := "cc62abd7768ba2c29ea146fca2c6ea0a4f05f9adad030041cc6df681e46d6693", func := "loop.example/mirrorgrids/laws.FnExactRoundTwice", spec := "fnExactRoundTwice", plainKeys := false, apart := false }
def FnExactRoundTwiceSaid : Prop := fnExactRoundTwiceRow.holds Try.pinned (OpenSpec.ofChange fnExactRoundTwiceSpec)

/-- ITS FALSE NEIGHBOUR: 'it returns false'. Refute it at one input. -/
def fnExactRoundTwiceWrong : ChangeSpec := { name := "fnExactRoundTwice", fn := fun _ => fun
  | [d] => { results := [.lit (.bool false)], args := [d] }
  | _ => none }
def FnExactRoundTwiceWrongFalsely : Prop := fnExactRoundTwiceRow.holds Try.pinned (OpenSpec.ofChange fnExactRoundTwiceWrong)

/-- 'laws.FnExactRoundMany': WHATEVER THE INPUT: true; the input reads as it did. -/
def fnExactRoundManySpec : ChangeSpec := { name := "fnExactRoundMany", fn := fun _ => fun
  | [d] => { results := [.lit (.bool true)], args := [d] }
  | _ => none }
def fnExactRoundManyRow : OpenClaim := { program := "ytmbjogjdcghacaa", sum := "cc62abd7768ba2c29ea146fca2c6ea0a4f05f9adad030041cc6df681e46d6693", func := "loop.example/mirrorgrids/laws.FnExactRoundMany", spec := "fnExactRoundMany", plainKeys := false, apart := false }
def FnExactRoundManySaid : Prop := fnExactRoundManyRow.holds Try.pinned (OpenSpec.ofChange fnExactRoundManySpec)

/-- ITS FALSE NEIGHBOUR: 'it returns false'. Refute it at one input. -/
def fnExactRoundManyWrong : ChangeSpec := { name := "fnExactRoundMany", fn := fun _ => fun
  | [d] => { results := [.lit (.bool false)], args := [d] }
  | _ => none }
def FnExactRoundManyWrongFalsely : Prop := fnExactRoundManyRow.holds Try.pinned (OpenSpec.ofChange fnExactRoundManyWrong)

/-- 'laws.FnExactRoundPaths': WHATEVER THE INPUT: true; the input reads as it did. -/
def fnExactRoundPathsSpec : ChangeSpec := { name := "fnExactRoundPaths", fn := fun _ => fun
  | [d] => { results := [.lit (.bool true)], args := [d] }
  | _ => none }
def fnExactRoundPathsRow : OpenClaim := { program := "ytmbjogjdcghacaa", sum := "cc62abd7768ba2c29ea146fca2c6ea0a4f05f9adad030041cc6df681e46d6693", func := "loop.example/mirrorgrids/laws.FnExactRoundPaths", spec := "fnExactRoundPaths", plainKeys := false, apart := false }
def FnExactRoundPathsSaid : Prop := fnExactRoundPathsRow.holds Try.pinned (OpenSpec.ofChange fnExactRoundPathsSpec)

/-- ITS FALSE NEIGHBOUR: 'it returns false'. Refute it at one input. -/
def fnExactRoundPathsWrong : ChangeSpec := { name := "fnExactRoundPaths", fn := fun _ => fun
  | [d] => { results := [.lit (.bool false)], args := [d] }
  | _ => none }
def FnExactRoundPathsWrongFalsely : Prop := fnExactRoundPathsRow.holds Try.pinned (OpenSpec.ofChange fnExactRoundPathsWrong)

/-- 'laws.FnRoundLeast': WHATEVER THE INPUT: true; the input reads as it did. -/
def fnRoundLeastSpec : ChangeSpec := { name := "fnRoundLeast", fn := fun _ => fun
  | [d] => { results := [.lit (.bool true)], args := [d] }
  | _ => none }
def fnRoundLeastRow : OpenClaim := { program := "ytmbjogjdcghacaa", sum := "cc62abd7768ba2c29ea146fca2c6ea0a4f05f9adad030041cc6df681e46d6693", func := "loop.example/mirrorgrids/laws.FnRoundLeast", spec := "fnRoundLeast", plainKeys := false, apart := false }
def FnRoundLeastSaid : Prop := fnRoundLeastRow.holds Try.pinned (OpenSpec.ofChange fnRoundLeastSpec)

/-- ITS FALSE NEIGHBOUR: 'it returns false'. Refute it at one input. -/
def fnRoundLeastWrong : ChangeSpec := { name := "fnRoundLeast", fn := fun _ => fun
  | [d] => { results := [.lit (.bool false)], args := [d] }
  | _ => none }
def FnRoundLeastWrongFalsely : Prop := fnRoundLeastRow.holds Try.pinned (OpenSpec.ofChange fnRoundLeastWrong)

/-- 'laws.FnRoundPlain': WHATEVER THE INPUT: true; the input reads as it did. -/
def fnRoundPlainSpec : ChangeSpec := { name := "fnRoundPlain", fn := fun _ => fun
  | [d] => { results := [.lit (.bool true)], args := [d] }
  | _ => none }
def fnRoundPlainRow : OpenClaim := { program := "ytmbjogjdcghacaa", sum := "cc62abd7768ba2c29ea146fca2c6ea0a4f05f9adad030041cc6df681e46d6693", func := "loop.example/mirrorgrids/laws.FnRoundPlain", spec := "fnRoundPlain", plainKeys := false, apart := false }
def FnRoundPlainSaid : Prop := fnRoundPlainRow.holds Try.pinned (OpenSpec.ofChange fnRoundPlainSpec)

/-- ITS FALSE NEIGHBOUR: 'it returns false'. Refute it at one input. -/
def fnRoundPlainWrong : ChangeSpec := { name := "fnRoundPlain", fn := fun _ => fun
  | [d] => { results := [.lit (.bool false)], args := [d] }
  | _ => none }
def FnRoundPlainWrongFalsely : Prop := fnRoundPlainRow.holds Try.pinned (OpenSpec.ofChange fnRoundPlainWrong)

/-- 'laws.FnPaths': WHATEVER THE INPUT: true; the input reads as it did. -/
def fnPathsSpec : ChangeSpec := { name := "fnPaths", fn := fun _ => fun
  | [d] => { results := [.lit (.bool true)], args := [d] }
  | _ => none }
def fnPathsRow : OpenClaim := { program := "ytmbjogjdcghacaa", sum := "cc62abd7768ba2c29ea146fca2c6ea0a4f05f9adad030041cc6df681e46d6693", func := "loop.example/mirrorgrids/laws.FnPaths", spec := "fnPaths", plainKeys := false, apart := false }
def FnPathsSaid : Prop := fnPathsRow.holds Try.pinned (OpenSpec.ofChange fnPathsSpec)

/-- ITS FALSE NEIGHBOUR: 'it returns false'. Refute it at one input. -/
def fnPathsWrong : ChangeSpec := { name := "fnPaths", fn := fun _ => fun
  | [d] => { results := [.lit (.bool false)], args := [d] }
  | _ => none }
def FnPathsWrongFalsely : Prop := fnPathsRow.holds Try.pinned (OpenSpec.ofChange fnPathsWrong)

/-- 'laws.FnRoundTwice': WHATEVER THE INPUT: true; the input reads as it did. -/
def fnRoundTwiceSpec : ChangeSpec := { name := "fnRoundTwice", fn := fun _ => fun
  | [d] => { results := [.lit (.bool true)], args := [d] }
  | _ => none }
def fnRoundTwiceRow : OpenClaim := { program := "ytmbjogjdcghacaa", sum := "cc62abd7768ba2c29ea146fca2c6ea0a4f05f9adad030041cc6df681e46d6693", func := "loop.example/mirrorgrids/laws.FnRoundTwice", spec := "fnRoundTwice", unfollowed := true, recurses := true, plainKeys := false, apart := false }
def FnRoundTwiceSaid : Prop := fnRoundTwiceRow.holds Try.pinned (OpenSpec.ofChange fnRoundTwiceSpec)

/-- ITS FALSE NEIGHBOUR: 'it returns false'. Refute it at one input. -/
def fnRoundTwiceWrong : ChangeSpec := { name := "fnRoundTwice", fn := fun _ => fun
  | [d] => { results := [.lit (.bool false)], args := [d] }
  | _ => none }
def FnRoundTwiceWrongFalsely : Prop := fnRoundTwiceRow.holds Try.pinned (OpenSpec.ofChange fnRoundTwiceWrong)

/-- 'laws.FnRounds': WHATEVER THE INPUT: true; the input reads as it did. -/
def fnRoundsSpec : ChangeSpec := { name := "fnRounds", fn := fun _ => fun
  | [d] => { results := [.lit (.bool true)], args := [d] }
  | _ => none }
def fnRoundsRow : OpenClaim := { program := "ytmbjogjdcghacaa", sum := "cc62abd7768ba2c29ea146fca2c6ea0a4f05f9adad030041cc6df681e46d6693", func := "loop.example/mirrorgrids/laws.FnRounds", spec := "fnRounds", unfollowed := true, recurses := true, plainKeys := false, apart := false }
def FnRoundsSaid : Prop := fnRoundsRow.holds Try.pinned (OpenSpec.ofChange fnRoundsSpec)

/-- ITS FALSE NEIGHBOUR: 'it returns false'. Refute it at one input. -/
def fnRoundsWrong : ChangeSpec := { name := "fnRounds", fn := fun _ => fun
  | [d] => { results := [.lit (.bool false)], args := [d] }
  | _ => none }
def FnRoundsWrongFalsely : Prop := fnRoundsRow.holds Try.pinned (OpenSpec.ofChange fnRoundsWrong)

/-- 'laws.FnMost': WHATEVER THE INPUT: true; the input reads as it did. -/
def fnMostSpec : ChangeSpec := { name := "fnMost", fn := fun _ => fun
  | [d] => { results := [.lit (.bool true)], args := [d] }
  | _ => none }
def fnMostRow : OpenClaim := { program := "ytmbjogjdcghacaa", sum := "cc62abd7768ba2c29ea146fca2c6ea0a4f05f9adad030041cc6df681e46d6693", func := "loop.example/mirrorgrids/laws.FnMost", spec := "fnMost", unfollowed := true, recurses := true, plainKeys := false, apart := false }
def FnMostSaid : Prop := fnMostRow.holds Try.pinned (OpenSpec.ofChange fnMostSpec)

/-- ITS FALSE NEIGHBOUR: 'it returns false'. Refute it at one input. -/
def fnMostWrong : ChangeSpec := { name := "fnMost", fn := fun _ => fun
  | [d] => { results := [.lit (.bool false)], args := [d] }
  | _ => none }
def FnMostWrongFalsely : Prop := fnMostRow.holds Try.pinned (OpenSpec.ofChange fnMostWrong)

/- THE SECOND FORM. 'bulk': how many values and letters a reading holds, each counted each time it is reached (what is shared counts as often as it is met; a slice's spare places count too). A statement '..UptoSaid' is the law's where the arguments, and the package variables that the reading takes, are together of bulk at most 1048576: NARROWER than '..Said'. Prove '..Said' where nothing that the law and all that it calls make is longer than what came in: it says more and counts as full. Else prove '..UptoSaid'. A law counts once. -/
mutual
def uptoBulk {H : Type} : DataW H → Nat
  | .lit (.string bytes) => bytes.length + 1
  | .lit _ => 1
  | .nil => 1
  | .ptr d => uptoBulk d + 1
  | .slice elems spare => uptoBulkAll elems + uptoBulkAll spare + 1
  | .agg parts => uptoBulkAll parts + 1
  | .iface _ d => uptoBulk d + 1
  | .map entries => uptoBulkEntries entries + 1
  | .held _ => 1
def uptoBulkAll {H : Type} : List (DataW H) → Nat
  | [] => 0
  | d :: r => uptoBulk d + uptoBulkAll r
def uptoBulkEntries {H : Type} : List (Lit × DataW H) → Nat
  | [] => 0
  | x :: r => uptoBulkEntry x + uptoBulkEntries r
def uptoBulkEntry {H : Type} : Lit × DataW H → Nat
  | (.string bytes, d) => bytes.length + uptoBulk d + 1
  | (_, d) => uptoBulk d + 1
 end
def uptoSmall : (H : Type) → List (DataW H) → Bool := fun _ ds => decide (uptoBulkAll ds ≤ 1048576)
def OpenSpec.upto (s : _root_.Go.ChangeSpec) : _root_.Go.OpenSpec := { _root_.Go.OpenSpec.ofChange s with cond := some uptoSmall }

/-- 'laws.FnExactRoundMost', WHERE WHAT IT READS IS OF BULK AT MOST 1048576: true; the input reads as it did. -/
def fnExactRoundMostUptoRow : OpenClaim := { program := "ytmbjogjdcghacaa", sum := "cc62abd7768ba2c29ea146fca2c6ea0a4f05f9adad030041cc6df681e46d6693", func := "loop.example/mirrorgrids/laws.FnExactRoundMost", spec := "fnExactRoundMost", unfollowed := true, recurses := true, plainKeys := false, apart := false, narrowed := true }
def FnExactRoundMostUptoSaid : Prop := fnExactRoundMostUptoRow.holds Try.pinned (OpenSpec.upto fnExactRoundMostSpec)

/-- 'laws.FnExactRoundAt', WHERE WHAT IT READS IS OF BULK AT MOST 1048576: true; the input reads as it did. -/
def fnExactRoundAtUptoRow : OpenClaim := { program := "ytmbjogjdcghacaa", sum := "cc62abd7768ba2c29ea146fca2c6ea0a4f05f9adad030041cc6df681e46d6693", func := "loop.example/mirrorgrids/laws.FnExactRoundAt", spec := "fnExactRoundAt", plainKeys := false, apart := false, narrowed := true }
def FnExactRoundAtUptoSaid : Prop := fnExactRoundAtUptoRow.holds Try.pinned (OpenSpec.upto fnExactRoundAtSpec)

/-- 'laws.FnExactRoundLeast', WHERE WHAT IT READS IS OF BULK AT MOST 1048576: true; the input reads as it did. -/
def fnExactRoundLeastUptoRow : OpenClaim := { program := "ytmbjogjdcghacaa", sum := "cc62abd7768ba2c29ea146fca2c6ea0a4f05f9adad030041cc6df681e46d6693", func := "loop.example/mirrorgrids/laws.FnExactRoundLeast", spec := "fnExactRoundLeast", plainKeys := false, apart := false, narrowed := true }
def FnExactRoundLeastUptoSaid : Prop := fnExactRoundLeastUptoRow.holds Try.pinned (OpenSpec.upto fnExactRoundLeastSpec)

/-- 'laws.FnExactRoundTwice', WHERE WHAT IT READS IS OF BULK AT MOST 1048576: true; the input reads as it did. -/
def fnExactRoundTwiceUptoRow : OpenClaim := { program := "ytmbjogjdcghacaa", sum := "cc62abd7768ba2c29ea146fca2c6ea0a4f05f9adad030041cc6df681e46d6693", func := "loop.example/mirrorgrids/laws.FnExactRoundTwice", spec := "fnExactRoundTwice", plainKeys := false, apart := false, narrowed := true }
def FnExactRoundTwiceUptoSaid : Prop := fnExactRoundTwiceUptoRow.holds Try.pinned (OpenSpec.upto fnExactRoundTwiceSpec)

/-- 'laws.FnExactRoundMany', WHERE WHAT IT READS IS OF BULK AT MOST 1048576: true; the input reads as it did. -/
def fnExactRoundManyUptoRow : OpenClaim := { program := "ytmbjogjdcghacaa", sum := "cc62abd7768ba2c29ea146fca2c6ea0a4f05f9adad030041cc6df681e46d6693", func := "loop.example/mirrorgrids/laws.FnExactRoundMany", spec := "fnExactRoundMany", plainKeys := false, apart := false, narrowed := true }
def FnExactRoundManyUptoSaid : Prop := fnExactRoundManyUptoRow.holds Try.pinned (OpenSpec.upto fnExactRoundManySpec)

/-- 'laws.FnExactRoundPaths', WHERE WHAT IT READS IS OF BULK AT MOST 1048576: true; the input reads as it did. -/
def fnExactRoundPathsUptoRow : OpenClaim := { program := "ytmbjogjdcghacaa", sum := "cc62abd7768ba2c29ea146fca2c6ea0a4f05f9adad030041cc6df681e46d6693", func := "loop.example/mirrorgrids/laws.FnExactRoundPaths", spec := "fnExactRoundPaths", plainKeys := false, apart := false, narrowed := true }
def FnExactRoundPathsUptoSaid : Prop := fnExactRoundPathsUptoRow.holds Try.pinned (OpenSpec.upto fnExactRoundPathsSpec)

/-- 'laws.FnRoundLeast', WHERE WHAT IT READS IS OF BULK AT MOST 1048576: true; the input reads as it did. -/
def fnRoundLeastUptoRow : OpenClaim := { program := "ytmbjogjdcghacaa", sum := "cc62abd7768ba2c29ea146fca2c6ea0a4f05f9adad030041cc6df681e46d6693", func := "loop.example/mirrorgrids/laws.FnRoundLeast", spec := "fnRoundLeast", plainKeys := false, apart := false, narrowed := true }
def FnRoundLeastUptoSaid : Prop := fnRoundLeastUptoRow.holds Try.pinned (OpenSpec.upto fnRoundLeastSpec)

/-- 'laws.FnRoundPlain', WHERE WHAT IT READS IS OF BULK AT MOST 1048576: true; the input reads as it did. -/
def fnRoundPlainUptoRow : OpenClaim := { program := "ytmbjogjdcghacaa", sum := "cc62abd7768ba2c29ea146fca2c6ea0a4f05f9adad030041cc6df681e46d6693", func := "loop.example/mirrorgrids/laws.FnRoundPlain", spec := "fnRoundPlain", plainKeys := false, apart := false, narrowed := true }
def FnRoundPlainUptoSaid : Prop := fnRoundPlainUptoRow.holds Try.pinned (OpenSpec.upto fnRoundPlainSpec)

/-- 'laws.FnPaths', WHERE WHAT IT READS IS OF BULK AT MOST 1048576: true; the input reads as it did. -/
def fnPathsUptoRow : OpenClaim := { program := "ytmbjogjdcghacaa", sum := "cc62abd7768ba2c29ea146fca2c6ea0a4f05f9adad030041cc6df681e46d6693", func := "loop.example/mirrorgrids/laws.FnPaths", spec := "fnPaths", plainKeys := false, apart := false, narrowed := true }
def FnPathsUptoSaid : Prop := fnPathsUptoRow.holds Try.pinned (OpenSpec.upto fnPathsSpec)

/-- 'laws.FnRoundTwice', WHERE WHAT IT READS IS OF BULK AT MOST 1048576: true; the input reads as it did. -/
def fnRoundTwiceUptoRow : OpenClaim := { program := "ytmbjogjdcghacaa", sum := "cc62abd7768ba2c29ea146fca2c6ea0a4f05f9adad030041cc6df681e46d6693", func := "loop.example/mirrorgrids/laws.FnRoundTwice", spec := "fnRoundTwice", unfollowed := true, recurses := true, plainKeys := false, apart := false, narrowed := true }
def FnRoundTwiceUptoSaid : Prop := fnRoundTwiceUptoRow.holds Try.pinned (OpenSpec.upto fnRoundTwiceSpec)

/-- 'laws.FnRounds', WHERE WHAT IT READS IS OF BULK AT MOST 1048576: true; the input reads as it did. -/
def fnRoundsUptoRow : OpenClaim := { program := "ytmbjogjdcghacaa", sum := "cc62abd7768ba2c29ea146fca2c6ea0a4f05f9adad030041cc6df681e46d6693", func := "loop.example/mirrorgrids/laws.FnRounds", spec := "fnRounds", unfollowed := true, recurses := true, plainKeys := false, apart := false, narrowed := true }
def FnRoundsUptoSaid : Prop := fnRoundsUptoRow.holds Try.pinned (OpenSpec.upto fnRoundsSpec)

/-- 'laws.FnMost', WHERE WHAT IT READS IS OF BULK AT MOST 1048576: true; the input reads as it did. -/
def fnMostUptoRow : OpenClaim := { program := "ytmbjogjdcghacaa", sum := "cc62abd7768ba2c29ea146fca2c6ea0a4f05f9adad030041cc6df681e46d6693", func := "loop.example/mirrorgrids/laws.FnMost", spec := "fnMost", unfollowed := true, recurses := true, plainKeys := false, apart := false, narrowed := true }
def FnMostUptoSaid : Prop := fnMostUptoRow.holds Try.pinned (OpenSpec.upto fnMostSpec)

end Rows
end Go.Proofs.Ytmbjogjdcghacaa
