/-
  CONTRACTS: RoundMany, RoundPaths, RoundLeast, RoundAt, RoundTwice of the program and of the reference.
-/
import Derived.Test.YthjllnabjnjpmaaBS
import Derived.Deep.RegionHeld3
namespace Go.Proofs.Ythjllnabjnjpmaa
set_option maxRecDepth 100000
open Go.RowKit

noncomputable def roundsA (g : List ByteArray) : Nat := if gridB g then (fld g).leads.length else 0
theorem leads_100 {g : List ByteArray} (hg : gridB g = true) : (fld g).leads.length ≤ 100 := by
  have h := leadsTo_le (fld g) (4 * ((fld g).n * (fld g).m))
  rw [leadsTo_all, cells_fld] at h
  have := cells_25 hg
  omega
theorem roundsA_le (g : List ByteArray) : roundsA g ≤ 100 := by
  unfold roundsA
  cases hg : gridB g
  · exact Nat.zero_le _
  · exact leads_100 hg
theorem roundsA_no {g : List ByteArray} (h : gridB g = false) : roundsA g = 0 := by unfold roundsA; rw [h]; rfl
theorem roundsA_yes {g : List ByteArray} (h : gridB g = true) : roundsA g = (fld g).leads.length := by unfold roundsA; rw [h]; rfl
noncomputable def pathsA (g : List ByteArray) : Nat := if gridB g then (fld g).leads.length + g.length + width g else 0
theorem pathsA_no {g : List ByteArray} (h : gridB g = false) : pathsA g = 0 := by unfold pathsA; rw [h]; rfl
theorem pathsA_yes {g : List ByteArray} (h : gridB g = true) : pathsA g = (fld g).leads.length + g.length + width g := by unfold pathsA; rw [h]; rfl
noncomputable def leastA (g : List ByteArray) : Nat := if gridB g then ((fld g).leastO).getD 0 else 0
noncomputable def leastB (g : List ByteArray) : Bool := gridB g && ((fld g).leastO).isSome
theorem leastB_iff {g : List ByteArray} : leastB g = true ↔ gridB g = true ∧ ((fld g).leastO).isSome = true := by unfold leastB; rw [Bool.and_eq_true]
theorem least_no {g : List ByteArray} (h : gridB g = false) : leastA g = 0 ∧ leastB g = false := by unfold leastA leastB; rw [h]; exact ⟨rfl, rfl⟩
theorem least_is {g : List ByteArray} (h : gridB g = true) {c : Nat} (hc : (fld g).leastO = some c) : leastA g = c ∧ leastB g = true := by unfold leastA leastB; rw [h, hc]; exact ⟨rfl, rfl⟩
theorem least_not {g : List ByteArray} (h : gridB g = true) (hc : (fld g).leastO = none) : leastA g = 0 ∧ leastB g = false := by unfold leastA leastB; rw [h, hc]; exact ⟨rfl, rfl⟩
def atB (g : List ByteArray) (c : Int) : Bool := gridB g && inB c 0 ((cellsN g : Int) - 1)
noncomputable def atA (g : List ByteArray) (c : Int) : Nat := if atB g c then (fld g).times c.toNat else 0
theorem atA_no {g : List ByteArray} {c : Int} (h : atB g c = false) : atA g c = 0 := by unfold atA; rw [h]; rfl
theorem atA_yes {g : List ByteArray} {c : Nat} (h : atB g (c : Nat) = true) : atA g (c : Nat) = (fld g).times c := by unfold atA; rw [h]; rfl
theorem atB_nat {g : List ByteArray} {c : Int} (h : atB g c = true) : gridB g = true ∧ ∃ k : Nat, c = (k : Nat) ∧ k < cellsN g := by
  unfold atB at h
  rw [Bool.and_eq_true] at h
  have h2 := inB_iff.1 h.2
  exact ⟨h.1, c.toNat, by omega, by omega⟩
theorem atB_yes {g : List ByteArray} (hg : gridB g = true) {c : Nat} (hc : c < cellsN g) : atB g (c : Nat) = true := by
  unfold atB; rw [hg, inB_yes ⟨by omega, by omega⟩]; rfl
theorem atB_no1 {g : List ByteArray} {c : Int} (h : gridB g = false) : atB g c = false := by unfold atB; rw [h]; rfl
theorem atB_no2 {g : List ByteArray} {c : Int} (h : inB c 0 ((cellsN g : Int) - 1) = false) : atB g c = false := by unfold atB; rw [h, Bool.and_false]
noncomputable def twosA (g : List ByteArray) : Nat := if gridB g then (fld g).twos else 0
theorem twosA_no {g : List ByteArray} (h : gridB g = false) : twosA g = 0 := by unfold twosA; rw [h]; rfl
theorem twosA_yes {g : List ByteArray} (h : gridB g = true) : twosA g = cntB (cellsN g) fun c => (fld g).times c == 2 := by unfold twosA; rw [h]; rfl

end Go.Proofs.Ythjllnabjnjpmaa
