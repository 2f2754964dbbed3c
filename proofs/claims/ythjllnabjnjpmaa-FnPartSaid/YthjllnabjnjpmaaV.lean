/-
  CONTRACTS OF THE DRAWS: a reader opened, a text of a list.
-/
import Derived.Test.YthjllnabjnjpmaaU
namespace Go.Proofs.Ythjllnabjnjpmaa
set_option maxRecDepth 100000
open Go.RowKit

theorem rdr_new (w : World) (A : Option Addr) (n c : Nat) : Rdr (w.alloc (.cells #[.slice A n c, .int .i64 0] 82)) w.heap.size A n c 0 := by
  show (w.heap.push _)[w.heap.size]? = _
  rw [Array.getElem?_push_size]; rfl
theorem bv_take (l : List UInt8) (k : Nat) : bv (l.take k) = (bv l).take k := List.map_take
def OpenPost (B : Nat) (w : World) (e : Ending) (w' : World) : Prop :=
  ∃ (l : List UInt8) (A : Option Addr) (c : Nat), e = .returned (.pointer (some ⟨w.heap.size, 0, none⟩)) ∧ l.length ≤ 2000 ∧ Rdr w' w.heap.size A l.length c 0 ∧ Rd w' B A (bv l) ∧ w.grownBy w' none

set_option maxHeartbeats 1600000 in
theorem l6Open_any (l : List UInt8) (A : Option Addr) (c B : Nat) (w : World) (hl : Rd w B A (bv l)) (hB : B ≤ w.heap.size) (hc : l.length ≤ c) (hll : l.length ≤ maxLen) :
    Calls Try.prog 28 #[.slice A l.length c] w (OpenPost B w) := by
  have hm : l.length ≤ 9223372036854775807 := Nat.le_trans hll (by decide)
  have HL := Lib.hid hl
  by_cases h : 2000 < l.length
  · go_enter Try.func28, Try.ntmps28
    go_wp2
    go_ret
    have hlen : (l.take 2000).length = 2000 := by rw [List.length_take]; omega
    refine ⟨l.take 2000, A, c, rfl, by omega, ?_, ?_, World.grownBy_alloc _ _ _⟩
    · rw [hlen]; exact rdr_new w A 2000 c
    · rw [bv_take]; exact (HL.out.take 2000).below ((below_alloc1 w _).mono hB)
  · go_enter Try.func28, Try.ntmps28
    go_wp2
    go_ret
    exact ⟨l, A, c, rfl, by omega, rdr_new w A _ c, HL.out.below ((below_alloc1 w _).mono hB), World.grownBy_alloc _ _ _⟩

end Go.Proofs.Ythjllnabjnjpmaa
