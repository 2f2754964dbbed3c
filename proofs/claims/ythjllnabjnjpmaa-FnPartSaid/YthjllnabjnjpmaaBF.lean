/-
  CONTRACTS: BeamWay, BeamLength of the program and of the reference.
-/
import Derived.Test.YthjllnabjnjpmaaBE
namespace Go.Proofs.Ythjllnabjnjpmaa
set_option maxRecDepth 100000
open Go.RowKit

theorem nil_own (w : World) : (w.alloc (.cells #[] 3)).ownsRow w.heap.size 3 1 (.slice (some ⟨w.heap.size, 0, none⟩) 0 0) 0 (iv (ni [])) := own_empty w 3
theorem wayA_yes_len {g : List ByteArray} {p : Nat} (h : givenB g p = true) : (ni (wayA g p)).length = lenB (fld g) p + 1 := by rw [ni_length, wayA_yes h, Fd.way_length]
theorem wayA_yes_iv {g : List ByteArray} {p : Nat} (h : givenB g p = true) : wayC (fld g) ((fld g).enter p) (lenB (fld g) p + 1) = ni (wayA g p) := by rw [wayC_way, wayA_yes h]
noncomputable def lenA (g : List ByteArray) (p : Int) : Nat := (wayA g p).length
end Go.Proofs.Ythjllnabjnjpmaa
