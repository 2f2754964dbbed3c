/-
  CONTRACTS: l1Power, l1Of, GridOf of the program and of the reference.
-/
import Derived.Test.YthjllnabjnjpmaaG
namespace Go.Proofs.Ythjllnabjnjpmaa
set_option maxRecDepth 100000
open Go.RowKit

def pw3 (k : Nat) : Nat := 3 ^ k
theorem pw3_zero : pw3 0 = 1 := rfl
theorem pw3_succ (k : Nat) : pw3 (k + 1) = pw3 k * 3 := Nat.pow_succ ..
theorem pw3_pos (k : Nat) : 1 ≤ pw3 k := Nat.pow_pos (by decide)
theorem pw3_mono {a b : Nat} (h : a ≤ b) : pw3 a ≤ pw3 b := Nat.pow_le_pow_right (by decide) h
theorem pw3_25 : pw3 25 = 847288609443 := by decide
theorem pw3_le {k : Nat} (h : k ≤ 25) : pw3 k ≤ 847288609443 := pw3_25 ▸ pw3_mono h
def qt (N k : Nat) : Nat := N / pw3 k
theorem qt_zero (N : Nat) : qt N 0 = N := by unfold qt; rw [pw3_zero, Nat.div_one]
theorem qt_succ (N k : Nat) : qt N (k + 1) = qt N k / 3 := by unfold qt; rw [pw3_succ, Nat.div_div_eq_div_mul]
theorem qt_le (N k : Nat) : qt N k ≤ N := Nat.div_le_self _ _
def dig3 (k : Nat) : UInt8 := if k % 3 = 0 then 46 else if k % 3 = 1 then 114 else 102
def gOf (n m N : Nat) : List ByteArray := mkG n m fun r c => dig3 (qt N (r * m + c))
def gridOfB (n m N : Int) : Bool := inB n 1 5 && inB m 1 5 && inB N 0 ((pw3 (n.toNat * m.toNat) : Int) - 1)
def gridOfR (n m N : Int) : List ByteArray := if gridOfB n m N then gOf n.toNat m.toNat N.toNat else []





end Go.Proofs.Ythjllnabjnjpmaa
