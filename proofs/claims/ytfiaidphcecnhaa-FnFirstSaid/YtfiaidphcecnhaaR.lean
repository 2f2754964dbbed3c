/-
  CONTRACTS: GridPart of the program and of the reference.
-/
import Derived.Test.YtfiaidphcecnhaaJ
namespace Go.Proofs.Ytfiaidphcecnhaa
open Go.RowKit

def partB (g : List ByteArray) (top low left right : Int) : Bool :=
  gridB g && inB top 0 ((g.length : Int) - 1) && inB low top ((g.length : Int) - 1) && inB left 0 ((width g : Int) - 1) && inB right left ((width g : Int) - 1)
def gPart (g : List ByteArray) (t l a b : Nat) : List ByteArray := ((g.drop t).take (l + 1 - t)).map fun s => s.extract a (b + 1)
def partR (g : List ByteArray) (top low left right : Int) : List ByteArray := if partB g top low left right then gPart g top.toNat low.toNat left.toNat right.toNat else []
theorem partB_iff {g : List ByteArray} {top low left right : Int} : partB g top low left right = true ↔
    gridB g = true ∧ (0 ≤ top ∧ top ≤ low ∧ low < g.length) ∧ (0 ≤ left ∧ left ≤ right ∧ right < width g) := by
  unfold partB
  simp only [Bool.and_eq_true, inB_iff]
  constructor
  · rintro ⟨⟨⟨⟨h1, h2⟩, h3⟩, h4⟩, h5⟩
    exact ⟨h1, ⟨by omega, by omega, by omega⟩, ⟨by omega, by omega, by omega⟩⟩
  · rintro ⟨h1, h2, h3⟩
    exact ⟨⟨⟨⟨h1, by omega⟩, by omega⟩, by omega⟩, by omega⟩
theorem partB_no {g : List ByteArray} {top low left right : Int} (h : ¬ (gridB g = true ∧ (0 ≤ top ∧ top ≤ low ∧ low < g.length) ∧ (0 ≤ left ∧ left ≤ right ∧ right < width g))) : partB g top low left right = false := by
  rw [← Bool.not_eq_true, partB_iff]; exact h
theorem partR_no {g : List ByteArray} {top low left right : Int} (h : partB g top low left right = false) : partR g top low left right = [] := by unfold partR; rw [h]; rfl
theorem gPart_length {g : List ByteArray} {t l a b : Nat} (h1 : t ≤ l) (h2 : l < g.length) : (gPart g t l a b).length = l + 1 - t := by
  unfold gPart; rw [List.length_map, List.length_take, List.length_drop]; omega
theorem gPart_take {g : List ByteArray} {t l a b k : Nat} (h1 : t + k ≤ l) (h2 : l < g.length) : (gPart g t l a b).take (k + 1) = (gPart g t l a b).take k ++ [(g[t + k]'(by omega)).extract a (b + 1)] := by
  rw [List.take_succ_eq_append_getElem (by rw [gPart_length (by omega) h2]; omega)]
  congr 2
  simp [gPart]
theorem len_gridpart (g : List ByteArray) (top low left right : Int) : (partR g top low left right).length ≤ 100 := by
  cases hb : partB g top low left right
  · rw [partR_no hb]; exact Nat.zero_le _
  · have h := partB_iff.1 hb
    have h1 := grid_len h.1
    unfold partR
    rw [hb, if_pos rfl, gPart_length (by omega) (by omega)]; omega


end Go.Proofs.Ytfiaidphcecnhaa
