/-
  CONTRACTS: sameTexts.
-/
import Derived.Test.YtmbjogjdcghacaaX
import Derived.Test.YtmbjogjdcghacaaY
import Derived.Test.YtmbjogjdcghacaaN
namespace Go.Proofs.Ytmbjogjdcghacaa
open Go.RowKit

/-- a grid, or none, is small -/
theorem small_of {R : List ByteArray} (h : R = [] ∨ gridB R = true) : R.length ≤ maxLen ∧ ∀ s ∈ R, s.size ≤ maxLen := by
  rcases h with rfl | h
  · exact ⟨by simp [maxLen], fun s hs => by cases hs⟩
  · have := grid_len h
    exact ⟨by unfold maxLen; omega, fun s hs => by have := grid_small h s hs; unfold maxLen; omega⟩
theorem iGridFlip_yes (A : Option Addr) (c : Nat) (g : List ByteArray) (w : World) (hg : gridB g = true) (hr : Rd w w.heap.size A (sv g)) :
    Calls Try.prog 36 #[.slice A g.length c] w (FreshSB (gFlip g) true w) := by
  have h := iGridFlip_any A c g w hr (small_of (.inr hg)).1 (small_of (.inr hg)).2
  rw [hg, orNone_yes] at h
  exact h
theorem iGridTurn_yes (A : Option Addr) (c : Nat) (g : List ByteArray) (w : World) (hg : gridB g = true) (hr : Rd w w.heap.size A (sv g)) :
    Calls Try.prog 35 #[.slice A g.length c] w (FreshSB (gTurn g) true w) := by
  have h := iGridTurn_any A c g w hr (small_of (.inr hg)).1 (small_of (.inr hg)).2
  rw [hg, orNone_yes] at h
  exact h
end Go.Proofs.Ytmbjogjdcghacaa
