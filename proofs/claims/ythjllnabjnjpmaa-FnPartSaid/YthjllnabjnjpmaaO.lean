/-
  CONTRACTS: l1Done, l1Beside, GridBeside, GridUnder of the program and of the reference.
-/
import Derived.Test.YthjllnabjnjpmaaJ
namespace Go.Proofs.Ythjllnabjnjpmaa
set_option maxRecDepth 100000
open Go.RowKit

def orNone2 (b : Bool) (g : List ByteArray) : List ByteArray := if b then g else []


/-! ### grids beside each other -/
def gBeside (g h : List ByteArray) : List ByteArray := List.zipWith (· ++ ·) g h
theorem gBeside_length {g h : List ByteArray} (hl : g.length = h.length) : (gBeside g h).length = g.length := by unfold gBeside; rw [List.length_zipWith, hl, Nat.min_self]
theorem gBeside_take {g h : List ByteArray} (k : Nat) (h1 : k < g.length) (h2 : k < h.length) : (gBeside g h).take (k + 1) = (gBeside g h).take k ++ [g[k] ++ h[k]] := by
  have hl : k < (gBeside g h).length := by unfold gBeside; rw [List.length_zipWith]; omega
  rw [List.take_succ_eq_append_getElem hl]
  simp [gBeside]
theorem gBeside_small {g h : List ByteArray} (hg : gridB g = true) (hh : gridB h = true) : ∀ s ∈ gBeside g h, s.size ≤ 10 := by
  intro s hs
  obtain ⟨k, hk, rfl⟩ := List.mem_iff_getElem.1 hs
  have hk' := hk
  unfold gBeside at hk'
  rw [List.length_zipWith] at hk'
  have h1 := grid_small hg _ (List.getElem_mem (show k < g.length by omega))
  have h2 := grid_small hh _ (List.getElem_mem (show k < h.length by omega))
  have e : (gBeside g h)[k] = g[k] ++ h[k] := by simp [gBeside]
  rw [e, ByteArray.size_append]; omega
def besideB (g h : List ByteArray) : Bool := gridB g && gridB h && (g.length == h.length) && gridB (gBeside g h)

theorem besideB_g {g h : List ByteArray} (e : gridB g = false) : besideB g h = false := by unfold besideB; rw [e]; rfl
theorem besideB_h {g h : List ByteArray} (e : gridB h = false) : besideB g h = false := by unfold besideB; rw [e, Bool.and_false]; rfl
theorem besideB_l {g h : List ByteArray} (e : g.length ≠ h.length) : besideB g h = false := by unfold besideB; rw [beq_eq_false_iff_ne.2 e, Bool.and_false]; rfl
theorem besideB_all {g h : List ByteArray} (e1 : gridB g = true) (e2 : gridB h = true) (e3 : g.length = h.length) : besideB g h = gridB (gBeside g h) := by unfold besideB; rw [e1, e2, beq_iff_eq.2 e3]; rfl
theorem gBeside_maxLen {g h : List ByteArray} (hg : gridB g = true) (hh : gridB h = true) : ∀ s ∈ gBeside g h, s.size ≤ maxLen := fun s hs => by
  have := gBeside_small hg hh s hs
  simp only [maxLen]; omega


theorem len_gridbeside (g h : List ByteArray) : (orNone2 (besideB g h) (gBeside g h)).length ≤ 100 := by
  cases hb : besideB g h
  · exact Nat.zero_le _
  · unfold besideB at hb
    have h1 := grid_len (Bool.and_eq_true_iff.1 hb).2
    show (gBeside g h).length ≤ 100
    omega
end Go.Proofs.Ythjllnabjnjpmaa
