/-
  No cell of these rows narrows 'for every input' (looked for: loops, veiled, ifaces, maps, wideKeys, modest, calm, conditions, laid).
  DERIVED. THE GIVEN ROWS OF THIS SEAT. 12 by the template 'for every input the law returns true; each argument reads behind the call as it read before'; 0 by the template 'total and deterministic' (their statements: YtjnelfgjglpchaaTotals.lean).
  GIVEN WITH THE SEED: the statements are not yours to turn. If you find one false, say at which input.
  Laid BY PROGRAM, IN A SANDBOX (cutbox-rows.mjs): the forced cells as the released guide's own fill.sh prints them over the translation 97d46a67faf55f91… (all of the seat's roots in one cut). By AI agents, Wed Nov 11 2026. No macro, syntax, notation, axiom, sorry.
-/
import Derived.Test.YtjnelfgjglpchaaChecked
import GoSem.Claim
import GoSem.ClaimJoined
import GoSem.ClaimMapViews
import Derived.JoinedTies
import Derived.KernelRfl
namespace Go.Proofs.Ytjnelfgjglpchaa
/- THE CELL 'sum', in the pinned program and in every row, IS THE sha256 OF THE DUMP (.gsa) THAT YtjnelfgjglpchaaProg.lean LOADS. Nothing in Lean hashes anything: it is a label: what it is worth is what the hold of that sum in a sandbox is worth. -/
noncomputable def Try.pinned : Pinned := { name := "ytjnelfgjglpchaa", sum := "97d46a67faf55f91ea3467df54446f2406a55839314c02f0a30abc9ade75d7de", checked := Try.checked }
namespace Rows
def none {H : Type} : Left H := { results := [], args := [] }

/-- 'laws.FnExactGridFlip': WHATEVER THE INPUT: true; the input reads as it did. -/
def fnExactGridFlipSpec : ChangeSpec := { name := "fnExactGridFlip", fn := fun _ => fun
  | [d] => { results := [.lit (.bool true)], args := [d] }
  | _ => none }
def fnExactGridFlipRow : OpenClaim := { program := "ytjnelfgjglpchaa", sum := "97d46a67faf55f91ea3467df54446f2406a55839314c02f0a30abc9ade75d7de", func := "loop.example/mirrorgrids/laws.FnExactGridFlip", spec := "fnExactGridFlip", unfollowed := true, recurses := true, apart := false }
def FnExactGridFlipSaid : Prop := fnExactGridFlipRow.holds Try.pinned (OpenSpec.ofChange fnExactGridFlipSpec)

/-- ITS FALSE NEIGHBOUR: 'it returns false'. Refute it at one input. -/
def fnExactGridFlipWrong : ChangeSpec := { name := "fnExactGridFlip", fn := fun _ => fun
  | [d] => { results := [.lit (.bool false)], args := [d] }
  | _ => none }
def FnExactGridFlipWrongFalsely : Prop := fnExactGridFlipRow.holds Try.pinned (OpenSpec.ofChange fnExactGridFlipWrong)

/-- 'laws.FnExactGridTurn': WHATEVER THE INPUT: true; the input reads as it did. -/
def fnExactGridTurnSpec : ChangeSpec := { name := "fnExactGridTurn", fn := fun _ => fun
  | [d] => { results := [.lit (.bool true)], args := [d] }
  | _ => none }
def fnExactGridTurnRow : OpenClaim := { program := "ytjnelfgjglpchaa", sum := "97d46a67faf55f91ea3467df54446f2406a55839314c02f0a30abc9ade75d7de", func := "loop.example/mirrorgrids/laws.FnExactGridTurn", spec := "fnExactGridTurn", unfollowed := true, recurses := true, apart := false }
def FnExactGridTurnSaid : Prop := fnExactGridTurnRow.holds Try.pinned (OpenSpec.ofChange fnExactGridTurnSpec)

/-- ITS FALSE NEIGHBOUR: 'it returns false'. Refute it at one input. -/
def fnExactGridTurnWrong : ChangeSpec := { name := "fnExactGridTurn", fn := fun _ => fun
  | [d] => { results := [.lit (.bool false)], args := [d] }
  | _ => none }
def FnExactGridTurnWrongFalsely : Prop := fnExactGridTurnRow.holds Try.pinned (OpenSpec.ofChange fnExactGridTurnWrong)

/-- 'laws.FnGrid': WHATEVER THE INPUT: true; the input reads as it did. -/
def fnGridSpec : ChangeSpec := { name := "fnGrid", fn := fun _ => fun
  | [d] => { results := [.lit (.bool true)], args := [d] }
  | _ => none }
def fnGridRow : OpenClaim := { program := "ytjnelfgjglpchaa", sum := "97d46a67faf55f91ea3467df54446f2406a55839314c02f0a30abc9ade75d7de", func := "loop.example/mirrorgrids/laws.FnGrid", spec := "fnGrid", unfollowed := true, recurses := true, apart := false }
def FnGridSaid : Prop := fnGridRow.holds Try.pinned (OpenSpec.ofChange fnGridSpec)

/-- ITS FALSE NEIGHBOUR: 'it returns false'. Refute it at one input. -/
def fnGridWrong : ChangeSpec := { name := "fnGrid", fn := fun _ => fun
  | [d] => { results := [.lit (.bool false)], args := [d] }
  | _ => none }
def FnGridWrongFalsely : Prop := fnGridRow.holds Try.pinned (OpenSpec.ofChange fnGridWrong)

/-- 'laws.FnPart': WHATEVER THE INPUT: true; the input reads as it did. -/
def fnPartSpec : ChangeSpec := { name := "fnPart", fn := fun _ => fun
  | [d] => { results := [.lit (.bool true)], args := [d] }
  | _ => none }
def fnPartRow : OpenClaim := { program := "ytjnelfgjglpchaa", sum := "97d46a67faf55f91ea3467df54446f2406a55839314c02f0a30abc9ade75d7de", func := "loop.example/mirrorgrids/laws.FnPart", spec := "fnPart", apart := false }
def FnPartSaid : Prop := fnPartRow.holds Try.pinned (OpenSpec.ofChange fnPartSpec)

/-- ITS FALSE NEIGHBOUR: 'it returns false'. Refute it at one input. -/
def fnPartWrong : ChangeSpec := { name := "fnPart", fn := fun _ => fun
  | [d] => { results := [.lit (.bool false)], args := [d] }
  | _ => none }
def FnPartWrongFalsely : Prop := fnPartRow.holds Try.pinned (OpenSpec.ofChange fnPartWrong)

/-- 'laws.FnOf': WHATEVER THE INPUT: true; the input reads as it did. -/
def fnOfSpec : ChangeSpec := { name := "fnOf", fn := fun _ => fun
  | [d] => { results := [.lit (.bool true)], args := [d] }
  | _ => none }
def fnOfRow : OpenClaim := { program := "ytjnelfgjglpchaa", sum := "97d46a67faf55f91ea3467df54446f2406a55839314c02f0a30abc9ade75d7de", func := "loop.example/mirrorgrids/laws.FnOf", spec := "fnOf", unfollowed := true, recurses := true, apart := false }
def FnOfSaid : Prop := fnOfRow.holds Try.pinned (OpenSpec.ofChange fnOfSpec)

/-- ITS FALSE NEIGHBOUR: 'it returns false'. Refute it at one input. -/
def fnOfWrong : ChangeSpec := { name := "fnOf", fn := fun _ => fun
  | [d] => { results := [.lit (.bool false)], args := [d] }
  | _ => none }
def FnOfWrongFalsely : Prop := fnOfRow.holds Try.pinned (OpenSpec.ofChange fnOfWrong)

/-- 'laws.FnBeside': WHATEVER THE INPUT: true; the input reads as it did. -/
def fnBesideSpec : ChangeSpec := { name := "fnBeside", fn := fun _ => fun
  | [d] => { results := [.lit (.bool true)], args := [d] }
  | _ => none }
def fnBesideRow : OpenClaim := { program := "ytjnelfgjglpchaa", sum := "97d46a67faf55f91ea3467df54446f2406a55839314c02f0a30abc9ade75d7de", func := "loop.example/mirrorgrids/laws.FnBeside", spec := "fnBeside", apart := false }
def FnBesideSaid : Prop := fnBesideRow.holds Try.pinned (OpenSpec.ofChange fnBesideSpec)

/-- ITS FALSE NEIGHBOUR: 'it returns false'. Refute it at one input. -/
def fnBesideWrong : ChangeSpec := { name := "fnBeside", fn := fun _ => fun
  | [d] => { results := [.lit (.bool false)], args := [d] }
  | _ => none }
def FnBesideWrongFalsely : Prop := fnBesideRow.holds Try.pinned (OpenSpec.ofChange fnBesideWrong)

/-- 'laws.FnPut': WHATEVER THE INPUT: true; the input reads as it did. -/
def fnPutSpec : ChangeSpec := { name := "fnPut", fn := fun _ => fun
  | [d] => { results := [.lit (.bool true)], args := [d] }
  | _ => none }
def fnPutRow : OpenClaim := { program := "ytjnelfgjglpchaa", sum := "97d46a67faf55f91ea3467df54446f2406a55839314c02f0a30abc9ade75d7de", func := "loop.example/mirrorgrids/laws.FnPut", spec := "fnPut", unfollowed := true, recurses := true, apart := false }
def FnPutSaid : Prop := fnPutRow.holds Try.pinned (OpenSpec.ofChange fnPutSpec)

/-- ITS FALSE NEIGHBOUR: 'it returns false'. Refute it at one input. -/
def fnPutWrong : ChangeSpec := { name := "fnPut", fn := fun _ => fun
  | [d] => { results := [.lit (.bool false)], args := [d] }
  | _ => none }
def FnPutWrongFalsely : Prop := fnPutRow.holds Try.pinned (OpenSpec.ofChange fnPutWrong)

/-- 'laws.FnCount': WHATEVER THE INPUT: true; the input reads as it did. -/
def fnCountSpec : ChangeSpec := { name := "fnCount", fn := fun _ => fun
  | [d] => { results := [.lit (.bool true)], args := [d] }
  | _ => none }
def fnCountRow : OpenClaim := { program := "ytjnelfgjglpchaa", sum := "97d46a67faf55f91ea3467df54446f2406a55839314c02f0a30abc9ade75d7de", func := "loop.example/mirrorgrids/laws.FnCount", spec := "fnCount", unfollowed := true, recurses := true, apart := false }
def FnCountSaid : Prop := fnCountRow.holds Try.pinned (OpenSpec.ofChange fnCountSpec)

/-- ITS FALSE NEIGHBOUR: 'it returns false'. Refute it at one input. -/
def fnCountWrong : ChangeSpec := { name := "fnCount", fn := fun _ => fun
  | [d] => { results := [.lit (.bool false)], args := [d] }
  | _ => none }
def FnCountWrongFalsely : Prop := fnCountRow.holds Try.pinned (OpenSpec.ofChange fnCountWrong)

/-- 'laws.FnUnder': WHATEVER THE INPUT: true; the input reads as it did. -/
def fnUnderSpec : ChangeSpec := { name := "fnUnder", fn := fun _ => fun
  | [d] => { results := [.lit (.bool true)], args := [d] }
  | _ => none }
def fnUnderRow : OpenClaim := { program := "ytjnelfgjglpchaa", sum := "97d46a67faf55f91ea3467df54446f2406a55839314c02f0a30abc9ade75d7de", func := "loop.example/mirrorgrids/laws.FnUnder", spec := "fnUnder", unfollowed := true, recurses := true, apart := false }
def FnUnderSaid : Prop := fnUnderRow.holds Try.pinned (OpenSpec.ofChange fnUnderSpec)

/-- ITS FALSE NEIGHBOUR: 'it returns false'. Refute it at one input. -/
def fnUnderWrong : ChangeSpec := { name := "fnUnder", fn := fun _ => fun
  | [d] => { results := [.lit (.bool false)], args := [d] }
  | _ => none }
def FnUnderWrongFalsely : Prop := fnUnderRow.holds Try.pinned (OpenSpec.ofChange fnUnderWrong)

/-- 'laws.FnOther': WHATEVER THE INPUT: true; the input reads as it did. -/
def fnOtherSpec : ChangeSpec := { name := "fnOther", fn := fun _ => fun
  | [d] => { results := [.lit (.bool true)], args := [d] }
  | _ => none }
def fnOtherRow : OpenClaim := { program := "ytjnelfgjglpchaa", sum := "97d46a67faf55f91ea3467df54446f2406a55839314c02f0a30abc9ade75d7de", func := "loop.example/mirrorgrids/laws.FnOther", spec := "fnOther", unfollowed := true, recurses := true, apart := false }
def FnOtherSaid : Prop := fnOtherRow.holds Try.pinned (OpenSpec.ofChange fnOtherSpec)

/-- ITS FALSE NEIGHBOUR: 'it returns false'. Refute it at one input. -/
def fnOtherWrong : ChangeSpec := { name := "fnOther", fn := fun _ => fun
  | [d] => { results := [.lit (.bool false)], args := [d] }
  | _ => none }
def FnOtherWrongFalsely : Prop := fnOtherRow.holds Try.pinned (OpenSpec.ofChange fnOtherWrong)

/-- 'laws.FnNumber': WHATEVER THE INPUT: true; the input reads as it did. -/
def fnNumberSpec : ChangeSpec := { name := "fnNumber", fn := fun _ => fun
  | [d] => { results := [.lit (.bool true)], args := [d] }
  | _ => none }
def fnNumberRow : OpenClaim := { program := "ytjnelfgjglpchaa", sum := "97d46a67faf55f91ea3467df54446f2406a55839314c02f0a30abc9ade75d7de", func := "loop.example/mirrorgrids/laws.FnNumber", spec := "fnNumber", unfollowed := true, recurses := true, apart := false }
def FnNumberSaid : Prop := fnNumberRow.holds Try.pinned (OpenSpec.ofChange fnNumberSpec)

/-- ITS FALSE NEIGHBOUR: 'it returns false'. Refute it at one input. -/
def fnNumberWrong : ChangeSpec := { name := "fnNumber", fn := fun _ => fun
  | [d] => { results := [.lit (.bool false)], args := [d] }
  | _ => none }
def FnNumberWrongFalsely : Prop := fnNumberRow.holds Try.pinned (OpenSpec.ofChange fnNumberWrong)

/-- 'laws.FnFlip': WHATEVER THE INPUT: true; the input reads as it did. -/
def fnFlipSpec : ChangeSpec := { name := "fnFlip", fn := fun _ => fun
  | [d] => { results := [.lit (.bool true)], args := [d] }
  | _ => none }
def fnFlipRow : OpenClaim := { program := "ytjnelfgjglpchaa", sum := "97d46a67faf55f91ea3467df54446f2406a55839314c02f0a30abc9ade75d7de", func := "loop.example/mirrorgrids/laws.FnFlip", spec := "fnFlip", unfollowed := true, recurses := true, apart := false }
def FnFlipSaid : Prop := fnFlipRow.holds Try.pinned (OpenSpec.ofChange fnFlipSpec)

/-- ITS FALSE NEIGHBOUR: 'it returns false'. Refute it at one input. -/
def fnFlipWrong : ChangeSpec := { name := "fnFlip", fn := fun _ => fun
  | [d] => { results := [.lit (.bool false)], args := [d] }
  | _ => none }
def FnFlipWrongFalsely : Prop := fnFlipRow.holds Try.pinned (OpenSpec.ofChange fnFlipWrong)

/- THE SECOND FORM. 'bulk': how many values and letters a reading holds, each counted each time it is reached (what is shared counts as often as it is met; a slice's spare places count too). A statement '..UptoSaid' is the law's where the arguments, and the package variables that the reading takes, are together of bulk at most 1048576: NARROWER than '..Said'. Prove '..Said' where nothing that the law and all that it calls make is longer than what came in: it says more and counts as full. Else prove '..UptoSaid'. A law counts once. -/
mutual
def uptoBulk {H : Type} : DataW H → Nat
  | .lit (.string bytes) => bytes.length + 1
  | .lit _ => 1
  | .nil => 1
  | .ptr d => uptoBulk d + 1
  | .slice elems spare => uptoBulkAll elems + uptoBulkAll spare + 1
  | .agg parts => uptoBulkAll parts + 1
  | .iface _ d => uptoBulk d + 1
  | .map entries => uptoBulkEntries entries + 1
  | .held _ => 1
def uptoBulkAll {H : Type} : List (DataW H) → Nat
  | [] => 0
  | d :: r => uptoBulk d + uptoBulkAll r
def uptoBulkEntries {H : Type} : List (Lit × DataW H) → Nat
  | [] => 0
  | x :: r => uptoBulkEntry x + uptoBulkEntries r
def uptoBulkEntry {H : Type} : Lit × DataW H → Nat
  | (.string bytes, d) => bytes.length + uptoBulk d + 1
  | (_, d) => uptoBulk d + 1
 end
def uptoSmall : (H : Type) → List (DataW H) → Bool := fun _ ds => decide (uptoBulkAll ds ≤ 1048576)
def OpenSpec.upto (s : _root_.Go.ChangeSpec) : _root_.Go.OpenSpec := { _root_.Go.OpenSpec.ofChange s with cond := some uptoSmall }

/-- 'laws.FnExactGridFlip', WHERE WHAT IT READS IS OF BULK AT MOST 1048576: true; the input reads as it did. -/
def fnExactGridFlipUptoRow : OpenClaim := { program := "ytjnelfgjglpchaa", sum := "97d46a67faf55f91ea3467df54446f2406a55839314c02f0a30abc9ade75d7de", func := "loop.example/mirrorgrids/laws.FnExactGridFlip", spec := "fnExactGridFlip", unfollowed := true, recurses := true, apart := false, narrowed := true }
def FnExactGridFlipUptoSaid : Prop := fnExactGridFlipUptoRow.holds Try.pinned (OpenSpec.upto fnExactGridFlipSpec)

/-- 'laws.FnExactGridTurn', WHERE WHAT IT READS IS OF BULK AT MOST 1048576: true; the input reads as it did. -/
def fnExactGridTurnUptoRow : OpenClaim := { program := "ytjnelfgjglpchaa", sum := "97d46a67faf55f91ea3467df54446f2406a55839314c02f0a30abc9ade75d7de", func := "loop.example/mirrorgrids/laws.FnExactGridTurn", spec := "fnExactGridTurn", unfollowed := true, recurses := true, apart := false, narrowed := true }
def FnExactGridTurnUptoSaid : Prop := fnExactGridTurnUptoRow.holds Try.pinned (OpenSpec.upto fnExactGridTurnSpec)

/-- 'laws.FnGrid', WHERE WHAT IT READS IS OF BULK AT MOST 1048576: true; the input reads as it did. -/
def fnGridUptoRow : OpenClaim := { program := "ytjnelfgjglpchaa", sum := "97d46a67faf55f91ea3467df54446f2406a55839314c02f0a30abc9ade75d7de", func := "loop.example/mirrorgrids/laws.FnGrid", spec := "fnGrid", unfollowed := true, recurses := true, apart := false, narrowed := true }
def FnGridUptoSaid : Prop := fnGridUptoRow.holds Try.pinned (OpenSpec.upto fnGridSpec)

/-- 'laws.FnPart', WHERE WHAT IT READS IS OF BULK AT MOST 1048576: true; the input reads as it did. -/
def fnPartUptoRow : OpenClaim := { program := "ytjnelfgjglpchaa", sum := "97d46a67faf55f91ea3467df54446f2406a55839314c02f0a30abc9ade75d7de", func := "loop.example/mirrorgrids/laws.FnPart", spec := "fnPart", apart := false, narrowed := true }
def FnPartUptoSaid : Prop := fnPartUptoRow.holds Try.pinned (OpenSpec.upto fnPartSpec)

/-- 'laws.FnOf', WHERE WHAT IT READS IS OF BULK AT MOST 1048576: true; the input reads as it did. -/
def fnOfUptoRow : OpenClaim := { program := "ytjnelfgjglpchaa", sum := "97d46a67faf55f91ea3467df54446f2406a55839314c02f0a30abc9ade75d7de", func := "loop.example/mirrorgrids/laws.FnOf", spec := "fnOf", unfollowed := true, recurses := true, apart := false, narrowed := true }
def FnOfUptoSaid : Prop := fnOfUptoRow.holds Try.pinned (OpenSpec.upto fnOfSpec)

/-- 'laws.FnBeside', WHERE WHAT IT READS IS OF BULK AT MOST 1048576: true; the input reads as it did. -/
def fnBesideUptoRow : OpenClaim := { program := "ytjnelfgjglpchaa", sum := "97d46a67faf55f91ea3467df54446f2406a55839314c02f0a30abc9ade75d7de", func := "loop.example/mirrorgrids/laws.FnBeside", spec := "fnBeside", apart := false, narrowed := true }
def FnBesideUptoSaid : Prop := fnBesideUptoRow.holds Try.pinned (OpenSpec.upto fnBesideSpec)

/-- 'laws.FnPut', WHERE WHAT IT READS IS OF BULK AT MOST 1048576: true; the input reads as it did. -/
def fnPutUptoRow : OpenClaim := { program := "ytjnelfgjglpchaa", sum := "97d46a67faf55f91ea3467df54446f2406a55839314c02f0a30abc9ade75d7de", func := "loop.example/mirrorgrids/laws.FnPut", spec := "fnPut", unfollowed := true, recurses := true, apart := false, narrowed := true }
def FnPutUptoSaid : Prop := fnPutUptoRow.holds Try.pinned (OpenSpec.upto fnPutSpec)

/-- 'laws.FnCount', WHERE WHAT IT READS IS OF BULK AT MOST 1048576: true; the input reads as it did. -/
def fnCountUptoRow : OpenClaim := { program := "ytjnelfgjglpchaa", sum := "97d46a67faf55f91ea3467df54446f2406a55839314c02f0a30abc9ade75d7de", func := "loop.example/mirrorgrids/laws.FnCount", spec := "fnCount", unfollowed := true, recurses := true, apart := false, narrowed := true }
def FnCountUptoSaid : Prop := fnCountUptoRow.holds Try.pinned (OpenSpec.upto fnCountSpec)

/-- 'laws.FnUnder', WHERE WHAT IT READS IS OF BULK AT MOST 1048576: true; the input reads as it did. -/
def fnUnderUptoRow : OpenClaim := { program := "ytjnelfgjglpchaa", sum := "97d46a67faf55f91ea3467df54446f2406a55839314c02f0a30abc9ade75d7de", func := "loop.example/mirrorgrids/laws.FnUnder", spec := "fnUnder", unfollowed := true, recurses := true, apart := false, narrowed := true }
def FnUnderUptoSaid : Prop := fnUnderUptoRow.holds Try.pinned (OpenSpec.upto fnUnderSpec)

/-- 'laws.FnOther', WHERE WHAT IT READS IS OF BULK AT MOST 1048576: true; the input reads as it did. -/
def fnOtherUptoRow : OpenClaim := { program := "ytjnelfgjglpchaa", sum := "97d46a67faf55f91ea3467df54446f2406a55839314c02f0a30abc9ade75d7de", func := "loop.example/mirrorgrids/laws.FnOther", spec := "fnOther", unfollowed := true, recurses := true, apart := false, narrowed := true }
def FnOtherUptoSaid : Prop := fnOtherUptoRow.holds Try.pinned (OpenSpec.upto fnOtherSpec)

/-- 'laws.FnNumber', WHERE WHAT IT READS IS OF BULK AT MOST 1048576: true; the input reads as it did. -/
def fnNumberUptoRow : OpenClaim := { program := "ytjnelfgjglpchaa", sum := "97d46a67faf55f91ea3467df54446f2406a55839314c02f0a30abc9ade75d7de", func := "loop.example/mirrorgrids/laws.FnNumber", spec := "fnNumber", unfollowed := true, recurses := true, apart := false, narrowed := true }
def FnNumberUptoSaid : Prop := fnNumberUptoRow.holds Try.pinned (OpenSpec.upto fnNumberSpec)

/-- 'laws.FnFlip', WHERE WHAT IT READS IS OF BULK AT MOST 1048576: true; the input reads as it did. -/
def fnFlipUptoRow : OpenClaim := { program := "ytjnelfgjglpchaa", sum := "97d46a67faf55f91ea3467df54446f2406a55839314c02f0a30abc9ade75d7de", func := "loop.example/mirrorgrids/laws.FnFlip", spec := "fnFlip", unfollowed := true, recurses := true, apart := false, narrowed := true }
def FnFlipUptoSaid : Prop := fnFlipUptoRow.holds Try.pinned (OpenSpec.upto fnFlipSpec)

end Rows
end Go.Proofs.Ytjnelfgjglpchaa
