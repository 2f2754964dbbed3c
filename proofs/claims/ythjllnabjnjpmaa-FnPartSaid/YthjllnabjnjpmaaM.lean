/-
  CONTRACTS: GridOther, GridPut, GridFlip, GridTurn of the program.
-/
import Derived.Test.YthjllnabjnjpmaaJ
namespace Go.Proofs.Ythjllnabjnjpmaa
set_option maxRecDepth 100000
open Go.RowKit

def cellAt (g : List ByteArray) (r c : Nat) : UInt8 := (g.getD r ⟨#[]⟩).toList.getD c 0
theorem cellAt_eq {g : List ByteArray} {r c : Nat} (h1 : r < g.length) (h2 : c < g[r].size) : cellAt g r c = g[r][c] := by
  unfold cellAt
  simp only [List.getD_eq_getElem?_getD, List.getElem?_eq_getElem h1, Option.getD_some]
  rw [List.getElem?_eq_getElem (by rw [toList_length]; exact h2), toList_get _ c h2]
  rfl
def gOther (g : List ByteArray) : List ByteArray := mkG g.length (width g) fun r c => ex (cellAt g r c)
def gFlip (g : List ByteArray) : List ByteArray := mkG g.length (width g) fun r c => ex (cellAt g r (width g - 1 - c))
def gTurn (g : List ByteArray) : List ByteArray := mkG (width g) g.length fun r c => ex (cellAt g (g.length - 1 - c) r)
def gPut (g : List ByteArray) (cell : Nat) (b : UInt8) : List ByteArray := mkG g.length (width g) fun r c => if r * width g + c = cell then b else cellAt g r c
def orNone (b : Bool) (g : List ByteArray) : List ByteArray := if b then g else []
theorem orNone_yes (g : List ByteArray) : orNone true g = g := rfl
theorem orNone_no (g : List ByteArray) : orNone false g = [] := rfl

theorem below_of_old {w w0 w1 : World} {B k : Nat} (h0 : Below w.heap.size w w0) (hI : Old w0 B k w1) (hB : w.heap.size ≤ B) (hS : Str w0 w1) : Below w.heap.size w w1 :=
  h0.trans ⟨hS.os, hS.tape, hS.output, hS.size, fun j hj => hI j (by omega)⟩



end Go.Proofs.Ythjllnabjnjpmaa
