/-
  No cell of these rows narrows 'for every input' (looked for: loops, veiled, ifaces, maps, wideKeys, modest, calm, conditions, laid).
  DERIVED. THE GIVEN ROWS OF THIS SEAT. 12 by the template 'for every input the law returns true; each argument reads behind the call as it read before'; 0 by the template 'total and deterministic' (their statements: YthhgflopdppmpaaTotals.lean).
  GIVEN WITH THE SEED: the statements are not yours to turn. If you find one false, say at which input.
  Laid BY PROGRAM, IN A SANDBOX (cutbox-rows.mjs): the forced cells as the released guide's own fill.sh prints them over the translation c56f28bb07094f04… (all of the seat's roots in one cut). By AI agents, Wed Nov 11 2026. No macro, syntax, notation, axiom, sorry.
-/
import Derived.Test.YthhgflopdppmpaaChecked
import GoSem.Claim
import GoSem.ClaimJoined
import GoSem.ClaimMapViews
import Derived.JoinedTies
import Derived.KernelRfl
namespace Go.Proofs.Ythhgflopdppmpaa
/- THE CELL 'sum', in the pinned program and in every row, IS THE sha256 OF THE DUMP (.gsa) THAT YthhgflopdppmpaaProg.lean LOADS. Nothing in Lean hashes anything: it is a label: what it is worth is what the hold of that sum in a sandbox is worth. -/
noncomputable def Try.pinned : Pinned := { name := "ythhgflopdppmpaa", sum := "c56f28bb07094f0438c5cccb66b3759ba0bd8f31f272133d74834dc6b244fadf", checked := Try.checked }
namespace Rows
def none {H : Type} : Left H := { results := [], args := [] }

/-- 'laws.FnExactConstants': WHATEVER THE INPUT: true; the input reads as it did. -/
def fnExactConstantsSpec : ChangeSpec := { name := "fnExactConstants", fn := fun _ => fun
  | [] => { results := [.lit (.bool true)], args := [] }
  | _ => none }
def fnExactConstantsRow : OpenClaim := { program := "ythhgflopdppmpaa", sum := "c56f28bb07094f0438c5cccb66b3759ba0bd8f31f272133d74834dc6b244fadf", func := "loop.example/mirrorgrids/laws.FnExactConstants", spec := "fnExactConstants", apart := false }
def FnExactConstantsSaid : Prop := fnExactConstantsRow.holds Try.pinned (OpenSpec.ofChange fnExactConstantsSpec)

/-- ITS FALSE NEIGHBOUR: 'it returns false'. Refute it at one input. -/
def fnExactConstantsWrong : ChangeSpec := { name := "fnExactConstants", fn := fun _ => fun
  | [] => { results := [.lit (.bool false)], args := [] }
  | _ => none }
def FnExactConstantsWrongFalsely : Prop := fnExactConstantsRow.holds Try.pinned (OpenSpec.ofChange fnExactConstantsWrong)

/-- 'laws.FnExactGridIn': WHATEVER THE INPUT: true; the input reads as it did. -/
def fnExactGridInSpec : ChangeSpec := { name := "fnExactGridIn", fn := fun _ => fun
  | [d] => { results := [.lit (.bool true)], args := [d] }
  | _ => none }
def fnExactGridInRow : OpenClaim := { program := "ythhgflopdppmpaa", sum := "c56f28bb07094f0438c5cccb66b3759ba0bd8f31f272133d74834dc6b244fadf", func := "loop.example/mirrorgrids/laws.FnExactGridIn", spec := "fnExactGridIn", apart := false }
def FnExactGridInSaid : Prop := fnExactGridInRow.holds Try.pinned (OpenSpec.ofChange fnExactGridInSpec)

/-- ITS FALSE NEIGHBOUR: 'it returns false'. Refute it at one input. -/
def fnExactGridInWrong : ChangeSpec := { name := "fnExactGridIn", fn := fun _ => fun
  | [d] => { results := [.lit (.bool false)], args := [d] }
  | _ => none }
def FnExactGridInWrongFalsely : Prop := fnExactGridInRow.holds Try.pinned (OpenSpec.ofChange fnExactGridInWrong)

/-- 'laws.FnExactRoundFull': WHATEVER THE INPUT: true; the input reads as it did. -/
def fnExactRoundFullSpec : ChangeSpec := { name := "fnExactRoundFull", fn := fun _ => fun
  | [d1, d2] => { results := [.lit (.bool true)], args := [d1, d2] }
  | _ => none }
def fnExactRoundFullRow : OpenClaim := { program := "ythhgflopdppmpaa", sum := "c56f28bb07094f0438c5cccb66b3759ba0bd8f31f272133d74834dc6b244fadf", func := "loop.example/mirrorgrids/laws.FnExactRoundFull", spec := "fnExactRoundFull", unfollowed := true, recurses := true, apart := false }
def FnExactRoundFullSaid : Prop := fnExactRoundFullRow.holds Try.pinned (OpenSpec.ofChange fnExactRoundFullSpec)

/-- ITS FALSE NEIGHBOUR: 'it returns false'. Refute it at one input. -/
def fnExactRoundFullWrong : ChangeSpec := { name := "fnExactRoundFull", fn := fun _ => fun
  | [d1, d2] => { results := [.lit (.bool false)], args := [d1, d2] }
  | _ => none }
def FnExactRoundFullWrongFalsely : Prop := fnExactRoundFullRow.holds Try.pinned (OpenSpec.ofChange fnExactRoundFullWrong)

/-- 'laws.FnExactGridOf': WHATEVER THE INPUT: true; the input reads as it did. -/
def fnExactGridOfSpec : ChangeSpec := { name := "fnExactGridOf", fn := fun _ => fun
  | [d1, d2, d3] => { results := [.lit (.bool true)], args := [d1, d2, d3] }
  | _ => none }
def fnExactGridOfRow : OpenClaim := { program := "ythhgflopdppmpaa", sum := "c56f28bb07094f0438c5cccb66b3759ba0bd8f31f272133d74834dc6b244fadf", func := "loop.example/mirrorgrids/laws.FnExactGridOf", spec := "fnExactGridOf", unfollowed := true, recurses := true, apart := false }
def FnExactGridOfSaid : Prop := fnExactGridOfRow.holds Try.pinned (OpenSpec.ofChange fnExactGridOfSpec)

/-- ITS FALSE NEIGHBOUR: 'it returns false'. Refute it at one input. -/
def fnExactGridOfWrong : ChangeSpec := { name := "fnExactGridOf", fn := fun _ => fun
  | [d1, d2, d3] => { results := [.lit (.bool false)], args := [d1, d2, d3] }
  | _ => none }
def FnExactGridOfWrongFalsely : Prop := fnExactGridOfRow.holds Try.pinned (OpenSpec.ofChange fnExactGridOfWrong)

/-- 'laws.FnExactGridCount': WHATEVER THE INPUT: true; the input reads as it did. -/
def fnExactGridCountSpec : ChangeSpec := { name := "fnExactGridCount", fn := fun _ => fun
  | [d] => { results := [.lit (.bool true)], args := [d] }
  | _ => none }
def fnExactGridCountRow : OpenClaim := { program := "ythhgflopdppmpaa", sum := "c56f28bb07094f0438c5cccb66b3759ba0bd8f31f272133d74834dc6b244fadf", func := "loop.example/mirrorgrids/laws.FnExactGridCount", spec := "fnExactGridCount", apart := false }
def FnExactGridCountSaid : Prop := fnExactGridCountRow.holds Try.pinned (OpenSpec.ofChange fnExactGridCountSpec)

/-- ITS FALSE NEIGHBOUR: 'it returns false'. Refute it at one input. -/
def fnExactGridCountWrong : ChangeSpec := { name := "fnExactGridCount", fn := fun _ => fun
  | [d] => { results := [.lit (.bool false)], args := [d] }
  | _ => none }
def FnExactGridCountWrongFalsely : Prop := fnExactGridCountRow.holds Try.pinned (OpenSpec.ofChange fnExactGridCountWrong)

/-- 'laws.FnExactGridFull': WHATEVER THE INPUT: true; the input reads as it did. -/
def fnExactGridFullSpec : ChangeSpec := { name := "fnExactGridFull", fn := fun _ => fun
  | [d] => { results := [.lit (.bool true)], args := [d] }
  | _ => none }
def fnExactGridFullRow : OpenClaim := { program := "ythhgflopdppmpaa", sum := "c56f28bb07094f0438c5cccb66b3759ba0bd8f31f272133d74834dc6b244fadf", func := "loop.example/mirrorgrids/laws.FnExactGridFull", spec := "fnExactGridFull", apart := false }
def FnExactGridFullSaid : Prop := fnExactGridFullRow.holds Try.pinned (OpenSpec.ofChange fnExactGridFullSpec)

/-- ITS FALSE NEIGHBOUR: 'it returns false'. Refute it at one input. -/
def fnExactGridFullWrong : ChangeSpec := { name := "fnExactGridFull", fn := fun _ => fun
  | [d] => { results := [.lit (.bool false)], args := [d] }
  | _ => none }
def FnExactGridFullWrongFalsely : Prop := fnExactGridFullRow.holds Try.pinned (OpenSpec.ofChange fnExactGridFullWrong)

/-- 'laws.FnExactGridNumber': WHATEVER THE INPUT: true; the input reads as it did. -/
def fnExactGridNumberSpec : ChangeSpec := { name := "fnExactGridNumber", fn := fun _ => fun
  | [d] => { results := [.lit (.bool true)], args := [d] }
  | _ => none }
def fnExactGridNumberRow : OpenClaim := { program := "ythhgflopdppmpaa", sum := "c56f28bb07094f0438c5cccb66b3759ba0bd8f31f272133d74834dc6b244fadf", func := "loop.example/mirrorgrids/laws.FnExactGridNumber", spec := "fnExactGridNumber", apart := false }
def FnExactGridNumberSaid : Prop := fnExactGridNumberRow.holds Try.pinned (OpenSpec.ofChange fnExactGridNumberSpec)

/-- ITS FALSE NEIGHBOUR: 'it returns false'. Refute it at one input. -/
def fnExactGridNumberWrong : ChangeSpec := { name := "fnExactGridNumber", fn := fun _ => fun
  | [d] => { results := [.lit (.bool false)], args := [d] }
  | _ => none }
def FnExactGridNumberWrongFalsely : Prop := fnExactGridNumberRow.holds Try.pinned (OpenSpec.ofChange fnExactGridNumberWrong)

/-- 'laws.FnExactGridPart': WHATEVER THE INPUT: true; the input reads as it did. -/
def fnExactGridPartSpec : ChangeSpec := { name := "fnExactGridPart", fn := fun _ => fun
  | [d1, d2, d3, d4, d5] => { results := [.lit (.bool true)], args := [d1, d2, d3, d4, d5] }
  | _ => none }
def fnExactGridPartRow : OpenClaim := { program := "ythhgflopdppmpaa", sum := "c56f28bb07094f0438c5cccb66b3759ba0bd8f31f272133d74834dc6b244fadf", func := "loop.example/mirrorgrids/laws.FnExactGridPart", spec := "fnExactGridPart", apart := false }
def FnExactGridPartSaid : Prop := fnExactGridPartRow.holds Try.pinned (OpenSpec.ofChange fnExactGridPartSpec)

/-- ITS FALSE NEIGHBOUR: 'it returns false'. Refute it at one input. -/
def fnExactGridPartWrong : ChangeSpec := { name := "fnExactGridPart", fn := fun _ => fun
  | [d1, d2, d3, d4, d5] => { results := [.lit (.bool false)], args := [d1, d2, d3, d4, d5] }
  | _ => none }
def FnExactGridPartWrongFalsely : Prop := fnExactGridPartRow.holds Try.pinned (OpenSpec.ofChange fnExactGridPartWrong)

/-- 'laws.FnExactGridUnder': WHATEVER THE INPUT: true; the input reads as it did. -/
def fnExactGridUnderSpec : ChangeSpec := { name := "fnExactGridUnder", fn := fun _ => fun
  | [d1, d2] => { results := [.lit (.bool true)], args := [d1, d2] }
  | _ => none }
def fnExactGridUnderRow : OpenClaim := { program := "ythhgflopdppmpaa", sum := "c56f28bb07094f0438c5cccb66b3759ba0bd8f31f272133d74834dc6b244fadf", func := "loop.example/mirrorgrids/laws.FnExactGridUnder", spec := "fnExactGridUnder", apart := false }
def FnExactGridUnderSaid : Prop := fnExactGridUnderRow.holds Try.pinned (OpenSpec.ofChange fnExactGridUnderSpec)

/-- ITS FALSE NEIGHBOUR: 'it returns false'. Refute it at one input. -/
def fnExactGridUnderWrong : ChangeSpec := { name := "fnExactGridUnder", fn := fun _ => fun
  | [d1, d2] => { results := [.lit (.bool false)], args := [d1, d2] }
  | _ => none }
def FnExactGridUnderWrongFalsely : Prop := fnExactGridUnderRow.holds Try.pinned (OpenSpec.ofChange fnExactGridUnderWrong)

/-- 'laws.FnExactGridBeside': WHATEVER THE INPUT: true; the input reads as it did. -/
def fnExactGridBesideSpec : ChangeSpec := { name := "fnExactGridBeside", fn := fun _ => fun
  | [d1, d2] => { results := [.lit (.bool true)], args := [d1, d2] }
  | _ => none }
def fnExactGridBesideRow : OpenClaim := { program := "ythhgflopdppmpaa", sum := "c56f28bb07094f0438c5cccb66b3759ba0bd8f31f272133d74834dc6b244fadf", func := "loop.example/mirrorgrids/laws.FnExactGridBeside", spec := "fnExactGridBeside", apart := false }
def FnExactGridBesideSaid : Prop := fnExactGridBesideRow.holds Try.pinned (OpenSpec.ofChange fnExactGridBesideSpec)

/-- ITS FALSE NEIGHBOUR: 'it returns false'. Refute it at one input. -/
def fnExactGridBesideWrong : ChangeSpec := { name := "fnExactGridBeside", fn := fun _ => fun
  | [d1, d2] => { results := [.lit (.bool false)], args := [d1, d2] }
  | _ => none }
def FnExactGridBesideWrongFalsely : Prop := fnExactGridBesideRow.holds Try.pinned (OpenSpec.ofChange fnExactGridBesideWrong)

/-- 'laws.FnExactGridPut': WHATEVER THE INPUT: true; the input reads as it did. -/
def fnExactGridPutSpec : ChangeSpec := { name := "fnExactGridPut", fn := fun _ => fun
  | [d1, d2, d3] => { results := [.lit (.bool true)], args := [d1, d2, d3] }
  | _ => none }
def fnExactGridPutRow : OpenClaim := { program := "ythhgflopdppmpaa", sum := "c56f28bb07094f0438c5cccb66b3759ba0bd8f31f272133d74834dc6b244fadf", func := "loop.example/mirrorgrids/laws.FnExactGridPut", spec := "fnExactGridPut", unfollowed := true, recurses := true, apart := false }
def FnExactGridPutSaid : Prop := fnExactGridPutRow.holds Try.pinned (OpenSpec.ofChange fnExactGridPutSpec)

/-- ITS FALSE NEIGHBOUR: 'it returns false'. Refute it at one input. -/
def fnExactGridPutWrong : ChangeSpec := { name := "fnExactGridPut", fn := fun _ => fun
  | [d1, d2, d3] => { results := [.lit (.bool false)], args := [d1, d2, d3] }
  | _ => none }
def FnExactGridPutWrongFalsely : Prop := fnExactGridPutRow.holds Try.pinned (OpenSpec.ofChange fnExactGridPutWrong)

/-- 'laws.FnExactGridOther': WHATEVER THE INPUT: true; the input reads as it did. -/
def fnExactGridOtherSpec : ChangeSpec := { name := "fnExactGridOther", fn := fun _ => fun
  | [d] => { results := [.lit (.bool true)], args := [d] }
  | _ => none }
def fnExactGridOtherRow : OpenClaim := { program := "ythhgflopdppmpaa", sum := "c56f28bb07094f0438c5cccb66b3759ba0bd8f31f272133d74834dc6b244fadf", func := "loop.example/mirrorgrids/laws.FnExactGridOther", spec := "fnExactGridOther", unfollowed := true, recurses := true, apart := false }
def FnExactGridOtherSaid : Prop := fnExactGridOtherRow.holds Try.pinned (OpenSpec.ofChange fnExactGridOtherSpec)

/-- ITS FALSE NEIGHBOUR: 'it returns false'. Refute it at one input. -/
def fnExactGridOtherWrong : ChangeSpec := { name := "fnExactGridOther", fn := fun _ => fun
  | [d] => { results := [.lit (.bool false)], args := [d] }
  | _ => none }
def FnExactGridOtherWrongFalsely : Prop := fnExactGridOtherRow.holds Try.pinned (OpenSpec.ofChange fnExactGridOtherWrong)

/- THE SECOND FORM. 'bulk': how many values and letters a reading holds, each counted each time it is reached (what is shared counts as often as it is met; a slice's spare places count too). A statement '..UptoSaid' is the law's where the arguments, and the package variables that the reading takes, are together of bulk at most 1048576: NARROWER than '..Said'. Prove '..Said' where nothing that the law and all that it calls make is longer than what came in: it says more and counts as full. Else prove '..UptoSaid'. A law counts once. -/
mutual
def uptoBulk {H : Type} : DataW H → Nat
  | .lit (.string bytes) => bytes.length + 1
  | .lit _ => 1
  | .nil => 1
  | .ptr d => uptoBulk d + 1
  | .slice elems spare => uptoBulkAll elems + uptoBulkAll spare + 1
  | .agg parts => uptoBulkAll parts + 1
  | .iface _ d => uptoBulk d + 1
  | .map entries => uptoBulkEntries entries + 1
  | .held _ => 1
def uptoBulkAll {H : Type} : List (DataW H) → Nat
  | [] => 0
  | d :: r => uptoBulk d + uptoBulkAll r
def uptoBulkEntries {H : Type} : List (Lit × DataW H) → Nat
  | [] => 0
  | x :: r => uptoBulkEntry x + uptoBulkEntries r
def uptoBulkEntry {H : Type} : Lit × DataW H → Nat
  | (.string bytes, d) => bytes.length + uptoBulk d + 1
  | (_, d) => uptoBulk d + 1
 end
def uptoSmall : (H : Type) → List (DataW H) → Bool := fun _ ds => decide (uptoBulkAll ds ≤ 1048576)
def OpenSpec.upto (s : _root_.Go.ChangeSpec) : _root_.Go.OpenSpec := { _root_.Go.OpenSpec.ofChange s with cond := some uptoSmall }

/-- 'laws.FnExactConstants', WHERE WHAT IT READS IS OF BULK AT MOST 1048576: true; the input reads as it did. -/
def fnExactConstantsUptoRow : OpenClaim := { program := "ythhgflopdppmpaa", sum := "c56f28bb07094f0438c5cccb66b3759ba0bd8f31f272133d74834dc6b244fadf", func := "loop.example/mirrorgrids/laws.FnExactConstants", spec := "fnExactConstants", apart := false, narrowed := true }
def FnExactConstantsUptoSaid : Prop := fnExactConstantsUptoRow.holds Try.pinned (OpenSpec.upto fnExactConstantsSpec)

/-- 'laws.FnExactGridIn', WHERE WHAT IT READS IS OF BULK AT MOST 1048576: true; the input reads as it did. -/
def fnExactGridInUptoRow : OpenClaim := { program := "ythhgflopdppmpaa", sum := "c56f28bb07094f0438c5cccb66b3759ba0bd8f31f272133d74834dc6b244fadf", func := "loop.example/mirrorgrids/laws.FnExactGridIn", spec := "fnExactGridIn", apart := false, narrowed := true }
def FnExactGridInUptoSaid : Prop := fnExactGridInUptoRow.holds Try.pinned (OpenSpec.upto fnExactGridInSpec)

/-- 'laws.FnExactRoundFull', WHERE WHAT IT READS IS OF BULK AT MOST 1048576: true; the input reads as it did. -/
def fnExactRoundFullUptoRow : OpenClaim := { program := "ythhgflopdppmpaa", sum := "c56f28bb07094f0438c5cccb66b3759ba0bd8f31f272133d74834dc6b244fadf", func := "loop.example/mirrorgrids/laws.FnExactRoundFull", spec := "fnExactRoundFull", unfollowed := true, recurses := true, apart := false, narrowed := true }
def FnExactRoundFullUptoSaid : Prop := fnExactRoundFullUptoRow.holds Try.pinned (OpenSpec.upto fnExactRoundFullSpec)

/-- 'laws.FnExactGridOf', WHERE WHAT IT READS IS OF BULK AT MOST 1048576: true; the input reads as it did. -/
def fnExactGridOfUptoRow : OpenClaim := { program := "ythhgflopdppmpaa", sum := "c56f28bb07094f0438c5cccb66b3759ba0bd8f31f272133d74834dc6b244fadf", func := "loop.example/mirrorgrids/laws.FnExactGridOf", spec := "fnExactGridOf", unfollowed := true, recurses := true, apart := false, narrowed := true }
def FnExactGridOfUptoSaid : Prop := fnExactGridOfUptoRow.holds Try.pinned (OpenSpec.upto fnExactGridOfSpec)

/-- 'laws.FnExactGridCount', WHERE WHAT IT READS IS OF BULK AT MOST 1048576: true; the input reads as it did. -/
def fnExactGridCountUptoRow : OpenClaim := { program := "ythhgflopdppmpaa", sum := "c56f28bb07094f0438c5cccb66b3759ba0bd8f31f272133d74834dc6b244fadf", func := "loop.example/mirrorgrids/laws.FnExactGridCount", spec := "fnExactGridCount", apart := false, narrowed := true }
def FnExactGridCountUptoSaid : Prop := fnExactGridCountUptoRow.holds Try.pinned (OpenSpec.upto fnExactGridCountSpec)

/-- 'laws.FnExactGridFull', WHERE WHAT IT READS IS OF BULK AT MOST 1048576: true; the input reads as it did. -/
def fnExactGridFullUptoRow : OpenClaim := { program := "ythhgflopdppmpaa", sum := "c56f28bb07094f0438c5cccb66b3759ba0bd8f31f272133d74834dc6b244fadf", func := "loop.example/mirrorgrids/laws.FnExactGridFull", spec := "fnExactGridFull", apart := false, narrowed := true }
def FnExactGridFullUptoSaid : Prop := fnExactGridFullUptoRow.holds Try.pinned (OpenSpec.upto fnExactGridFullSpec)

/-- 'laws.FnExactGridNumber', WHERE WHAT IT READS IS OF BULK AT MOST 1048576: true; the input reads as it did. -/
def fnExactGridNumberUptoRow : OpenClaim := { program := "ythhgflopdppmpaa", sum := "c56f28bb07094f0438c5cccb66b3759ba0bd8f31f272133d74834dc6b244fadf", func := "loop.example/mirrorgrids/laws.FnExactGridNumber", spec := "fnExactGridNumber", apart := false, narrowed := true }
def FnExactGridNumberUptoSaid : Prop := fnExactGridNumberUptoRow.holds Try.pinned (OpenSpec.upto fnExactGridNumberSpec)

/-- 'laws.FnExactGridPart', WHERE WHAT IT READS IS OF BULK AT MOST 1048576: true; the input reads as it did. -/
def fnExactGridPartUptoRow : OpenClaim := { program := "ythhgflopdppmpaa", sum := "c56f28bb07094f0438c5cccb66b3759ba0bd8f31f272133d74834dc6b244fadf", func := "loop.example/mirrorgrids/laws.FnExactGridPart", spec := "fnExactGridPart", apart := false, narrowed := true }
def FnExactGridPartUptoSaid : Prop := fnExactGridPartUptoRow.holds Try.pinned (OpenSpec.upto fnExactGridPartSpec)

/-- 'laws.FnExactGridUnder', WHERE WHAT IT READS IS OF BULK AT MOST 1048576: true; the input reads as it did. -/
def fnExactGridUnderUptoRow : OpenClaim := { program := "ythhgflopdppmpaa", sum := "c56f28bb07094f0438c5cccb66b3759ba0bd8f31f272133d74834dc6b244fadf", func := "loop.example/mirrorgrids/laws.FnExactGridUnder", spec := "fnExactGridUnder", apart := false, narrowed := true }
def FnExactGridUnderUptoSaid : Prop := fnExactGridUnderUptoRow.holds Try.pinned (OpenSpec.upto fnExactGridUnderSpec)

/-- 'laws.FnExactGridBeside', WHERE WHAT IT READS IS OF BULK AT MOST 1048576: true; the input reads as it did. -/
def fnExactGridBesideUptoRow : OpenClaim := { program := "ythhgflopdppmpaa", sum := "c56f28bb07094f0438c5cccb66b3759ba0bd8f31f272133d74834dc6b244fadf", func := "loop.example/mirrorgrids/laws.FnExactGridBeside", spec := "fnExactGridBeside", apart := false, narrowed := true }
def FnExactGridBesideUptoSaid : Prop := fnExactGridBesideUptoRow.holds Try.pinned (OpenSpec.upto fnExactGridBesideSpec)

/-- 'laws.FnExactGridPut', WHERE WHAT IT READS IS OF BULK AT MOST 1048576: true; the input reads as it did. -/
def fnExactGridPutUptoRow : OpenClaim := { program := "ythhgflopdppmpaa", sum := "c56f28bb07094f0438c5cccb66b3759ba0bd8f31f272133d74834dc6b244fadf", func := "loop.example/mirrorgrids/laws.FnExactGridPut", spec := "fnExactGridPut", unfollowed := true, recurses := true, apart := false, narrowed := true }
def FnExactGridPutUptoSaid : Prop := fnExactGridPutUptoRow.holds Try.pinned (OpenSpec.upto fnExactGridPutSpec)

/-- 'laws.FnExactGridOther', WHERE WHAT IT READS IS OF BULK AT MOST 1048576: true; the input reads as it did. -/
def fnExactGridOtherUptoRow : OpenClaim := { program := "ythhgflopdppmpaa", sum := "c56f28bb07094f0438c5cccb66b3759ba0bd8f31f272133d74834dc6b244fadf", func := "loop.example/mirrorgrids/laws.FnExactGridOther", spec := "fnExactGridOther", unfollowed := true, recurses := true, apart := false, narrowed := true }
def FnExactGridOtherUptoSaid : Prop := fnExactGridOtherUptoRow.holds Try.pinned (OpenSpec.upto fnExactGridOtherSpec)

end Rows
end Go.Proofs.Ythhgflopdppmpaa
