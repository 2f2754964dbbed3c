/-
  No cell of these rows narrows 'for every input' (looked for: loops, veiled, ifaces, maps, wideKeys, modest, calm, conditions, laid).
  DERIVED. THE GIVEN ROWS OF THIS SEAT. 5 by the template 'for every input the law returns true; each argument reads behind the call as it read before'; 0 by the template 'total and deterministic' (their statements: YthjllnabjnjpmaaTotals.lean).
  GIVEN WITH THE SEED: the statements are not yours to turn. If you find one false, say at which input.
  Laid BY PROGRAM, IN A SANDBOX (cutbox-rows.mjs): the forced cells as the released guide's own fill.sh prints them over the translation 149d637886005778… (all of the seat's roots in one cut). By AI agents, Wed Nov 11 2026. No macro, syntax, notation, axiom, sorry.
-/
import Derived.Test.YthjllnabjnjpmaaChecked
import GoSem.Claim
import GoSem.ClaimJoined
import GoSem.ClaimMapViews
import Derived.JoinedTies
import Derived.KernelRfl
namespace Go.Proofs.Ythjllnabjnjpmaa
/- THE CELL 'sum', in the pinned program and in every row, IS THE sha256 OF THE DUMP (.gsa) THAT YthjllnabjnjpmaaProg.lean LOADS. Nothing in Lean hashes anything: it is a label: what it is worth is what the hold of that sum in a sandbox is worth. -/
noncomputable def Try.pinned : Pinned := { name := "ythjllnabjnjpmaa", sum := "149d637886005778bdf512ecb6ec95e44c4523f064a8503a951b773373849902", checked := Try.checked }
namespace Rows
def none {H : Type} : Left H := { results := [], args := [] }

/-- 'laws.FnPart': WHATEVER THE INPUT: true; the input reads as it did. -/
def fnPartSpec : ChangeSpec := { name := "fnPart", fn := fun _ => fun
  | [d] => { results := [.lit (.bool true)], args := [d] }
  | _ => none }
def fnPartRow : OpenClaim := { program := "ythjllnabjnjpmaa", sum := "149d637886005778bdf512ecb6ec95e44c4523f064a8503a951b773373849902", func := "loop.example/mirrorgrids/laws.FnPart", spec := "fnPart", plainKeys := false, apart := false }
def FnPartSaid : Prop := fnPartRow.holds Try.pinned (OpenSpec.ofChange fnPartSpec)

/-- ITS FALSE NEIGHBOUR: 'it returns false'. Refute it at one input. -/
def fnPartWrong : ChangeSpec := { name := "fnPart", fn := fun _ => fun
  | [d] => { results := [.lit (.bool false)], args := [d] }
  | _ => none }
def FnPartWrongFalsely : Prop := fnPartRow.holds Try.pinned (OpenSpec.ofChange fnPartWrong)

/-- 'laws.FnPut': WHATEVER THE INPUT: true; the input reads as it did. -/
def fnPutSpec : ChangeSpec := { name := "fnPut", fn := fun _ => fun
  | [d] => { results := [.lit (.bool true)], args := [d] }
  | _ => none }
def fnPutRow : OpenClaim := { program := "ythjllnabjnjpmaa", sum := "149d637886005778bdf512ecb6ec95e44c4523f064a8503a951b773373849902", func := "loop.example/mirrorgrids/laws.FnPut", spec := "fnPut", unfollowed := true, recurses := true, plainKeys := false, apart := false }
def FnPutSaid : Prop := fnPutRow.holds Try.pinned (OpenSpec.ofChange fnPutSpec)

/-- ITS FALSE NEIGHBOUR: 'it returns false'. Refute it at one input. -/
def fnPutWrong : ChangeSpec := { name := "fnPut", fn := fun _ => fun
  | [d] => { results := [.lit (.bool false)], args := [d] }
  | _ => none }
def FnPutWrongFalsely : Prop := fnPutRow.holds Try.pinned (OpenSpec.ofChange fnPutWrong)

/-- 'laws.FnRoundFull': WHATEVER THE INPUT: true; the input reads as it did. -/
def fnRoundFullSpec : ChangeSpec := { name := "fnRoundFull", fn := fun _ => fun
  | [d] => { results := [.lit (.bool true)], args := [d] }
  | _ => none }
def fnRoundFullRow : OpenClaim := { program := "ythjllnabjnjpmaa", sum := "149d637886005778bdf512ecb6ec95e44c4523f064a8503a951b773373849902", func := "loop.example/mirrorgrids/laws.FnRoundFull", spec := "fnRoundFull", unfollowed := true, recurses := true, plainKeys := false, apart := false }
def FnRoundFullSaid : Prop := fnRoundFullRow.holds Try.pinned (OpenSpec.ofChange fnRoundFullSpec)

/-- ITS FALSE NEIGHBOUR: 'it returns false'. Refute it at one input. -/
def fnRoundFullWrong : ChangeSpec := { name := "fnRoundFull", fn := fun _ => fun
  | [d] => { results := [.lit (.bool false)], args := [d] }
  | _ => none }
def FnRoundFullWrongFalsely : Prop := fnRoundFullRow.holds Try.pinned (OpenSpec.ofChange fnRoundFullWrong)

/-- 'laws.FnRoundAt': WHATEVER THE INPUT: true; the input reads as it did. -/
def fnRoundAtSpec : ChangeSpec := { name := "fnRoundAt", fn := fun _ => fun
  | [d] => { results := [.lit (.bool true)], args := [d] }
  | _ => none }
def fnRoundAtRow : OpenClaim := { program := "ythjllnabjnjpmaa", sum := "149d637886005778bdf512ecb6ec95e44c4523f064a8503a951b773373849902", func := "loop.example/mirrorgrids/laws.FnRoundAt", spec := "fnRoundAt", recurses := true, plainKeys := false, apart := false }
def FnRoundAtSaid : Prop := fnRoundAtRow.holds Try.pinned (OpenSpec.ofChange fnRoundAtSpec)

/-- ITS FALSE NEIGHBOUR: 'it returns false'. Refute it at one input. -/
def fnRoundAtWrong : ChangeSpec := { name := "fnRoundAt", fn := fun _ => fun
  | [d] => { results := [.lit (.bool false)], args := [d] }
  | _ => none }
def FnRoundAtWrongFalsely : Prop := fnRoundAtRow.holds Try.pinned (OpenSpec.ofChange fnRoundAtWrong)

/-- 'laws.FnCells': WHATEVER THE INPUT: true; the input reads as it did. -/
def fnCellsSpec : ChangeSpec := { name := "fnCells", fn := fun _ => fun
  | [d] => { results := [.lit (.bool true)], args := [d] }
  | _ => none }
def fnCellsRow : OpenClaim := { program := "ythjllnabjnjpmaa", sum := "149d637886005778bdf512ecb6ec95e44c4523f064a8503a951b773373849902", func := "loop.example/mirrorgrids/laws.FnCells", spec := "fnCells", recurses := true, plainKeys := false, apart := false }
def FnCellsSaid : Prop := fnCellsRow.holds Try.pinned (OpenSpec.ofChange fnCellsSpec)

/-- ITS FALSE NEIGHBOUR: 'it returns false'. Refute it at one input. -/
def fnCellsWrong : ChangeSpec := { name := "fnCells", fn := fun _ => fun
  | [d] => { results := [.lit (.bool false)], args := [d] }
  | _ => none }
def FnCellsWrongFalsely : Prop := fnCellsRow.holds Try.pinned (OpenSpec.ofChange fnCellsWrong)

/- THE SECOND FORM. 'bulk': how many values and letters a reading holds, each counted each time it is reached (what is shared counts as often as it is met; a slice's spare places count too). A statement '..UptoSaid' is the law's where the arguments, and the package variables that the reading takes, are together of bulk at most 1048576: NARROWER than '..Said'. Prove '..Said' where nothing that the law and all that it calls make is longer than what came in: it says more and counts as full. Else prove '..UptoSaid'. A law counts once. -/
mutual
def uptoBulk {H : Type} : DataW H → Nat
  | .lit (.string bytes) => bytes.length + 1
  | .lit _ => 1
  | .nil => 1
  | .ptr d => uptoBulk d + 1
  | .slice elems spare => uptoBulkAll elems + uptoBulkAll spare + 1
  | .agg parts => uptoBulkAll parts + 1
  | .iface _ d => uptoBulk d + 1
  | .map entries => uptoBulkEntries entries + 1
  | .held _ => 1
def uptoBulkAll {H : Type} : List (DataW H) → Nat
  | [] => 0
  | d :: r => uptoBulk d + uptoBulkAll r
def uptoBulkEntries {H : Type} : List (Lit × DataW H) → Nat
  | [] => 0
  | x :: r => uptoBulkEntry x + uptoBulkEntries r
def uptoBulkEntry {H : Type} : Lit × DataW H → Nat
  | (.string bytes, d) => bytes.length + uptoBulk d + 1
  | (_, d) => uptoBulk d + 1
 end
def uptoSmall : (H : Type) → List (DataW H) → Bool := fun _ ds => decide (uptoBulkAll ds ≤ 1048576)
def OpenSpec.upto (s : _root_.Go.ChangeSpec) : _root_.Go.OpenSpec := { _root_.Go.OpenSpec.ofChange s with cond := some uptoSmall }

/-- 'laws.FnPart', WHERE WHAT IT READS IS OF BULK AT MOST 1048576: true; the input reads as it did. -/
def fnPartUptoRow : OpenClaim := { program := "ythjllnabjnjpmaa", sum := "149d637886005778bdf512ecb6ec95e44c4523f064a8503a951b773373849902", func := "loop.example/mirrorgrids/laws.FnPart", spec := "fnPart", plainKeys := false, apart := false, narrowed := true }
def FnPartUptoSaid : Prop := fnPartUptoRow.holds Try.pinned (OpenSpec.upto fnPartSpec)

/-- 'laws.FnPut', WHERE WHAT IT READS IS OF BULK AT MOST 1048576: true; the input reads as it did. -/
def fnPutUptoRow : OpenClaim := { program := "ythjllnabjnjpmaa", sum := "149d637886005778bdf512ecb6ec95e44c4523f064a8503a951b773373849902", func := "loop.example/mirrorgrids/laws.FnPut", spec := "fnPut", unfollowed := true, recurses := true, plainKeys := false, apart := false, narrowed := true }
def FnPutUptoSaid : Prop := fnPutUptoRow.holds Try.pinned (OpenSpec.upto fnPutSpec)

/-- 'laws.FnRoundFull', WHERE WHAT IT READS IS OF BULK AT MOST 1048576: true; the input reads as it did. -/
def fnRoundFullUptoRow : OpenClaim := { program := "ythjllnabjnjpmaa", sum := "149d637886005778bdf512ecb6ec95e44c4523f064a8503a951b773373849902", func := "loop.example/mirrorgrids/laws.FnRoundFull", spec := "fnRoundFull", unfollowed := true, recurses := true, plainKeys := false, apart := false, narrowed := true }
def FnRoundFullUptoSaid : Prop := fnRoundFullUptoRow.holds Try.pinned (OpenSpec.upto fnRoundFullSpec)

/-- 'laws.FnRoundAt', WHERE WHAT IT READS IS OF BULK AT MOST 1048576: true; the input reads as it did. -/
def fnRoundAtUptoRow : OpenClaim := { program := "ythjllnabjnjpmaa", sum := "149d637886005778bdf512ecb6ec95e44c4523f064a8503a951b773373849902", func := "loop.example/mirrorgrids/laws.FnRoundAt", spec := "fnRoundAt", recurses := true, plainKeys := false, apart := false, narrowed := true }
def FnRoundAtUptoSaid : Prop := fnRoundAtUptoRow.holds Try.pinned (OpenSpec.upto fnRoundAtSpec)

/-- 'laws.FnCells', WHERE WHAT IT READS IS OF BULK AT MOST 1048576: true; the input reads as it did. -/
def fnCellsUptoRow : OpenClaim := { program := "ythjllnabjnjpmaa", sum := "149d637886005778bdf512ecb6ec95e44c4523f064a8503a951b773373849902", func := "loop.example/mirrorgrids/laws.FnCells", spec := "fnCells", recurses := true, plainKeys := false, apart := false, narrowed := true }
def FnCellsUptoSaid : Prop := fnCellsUptoRow.holds Try.pinned (OpenSpec.upto fnCellsSpec)

end Rows
end Go.Proofs.Ythjllnabjnjpmaa
