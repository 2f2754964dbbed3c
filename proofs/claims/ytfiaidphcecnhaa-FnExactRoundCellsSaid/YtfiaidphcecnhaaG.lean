/-
  CONTRACTS: l1None, sidesOk, exchanged, l1Other; RoundFull of the program and of the reference.
-/
import Derived.Test.YtfiaidphcecnhaaF
namespace Go.Proofs.Ytfiaidphcecnhaa
open Go.RowKit


/-- texts and a bool come back -/
def FreshSB (g : List ByteArray) (b : Bool) (w : World) (e : Ending) (w' : World) : Prop :=
  ∃ A c, e = .returned (.tuple #[.slice A g.length c, .bool b]) ∧ w'.ownsRow w.heap.size 9 1 (.slice A g.length c) g.length (sv g) ∧ Below w.heap.size w w'
theorem own_empty (w : World) (e : Nat) : (w.alloc (.cells #[] e)).ownsRow w.heap.size e 1 (.slice (some ⟨w.heap.size, 0, none⟩) 0 0) 0 [] := World.ownsRow_made w #[] 0 (Nat.le_refl _) (by decide) rfl
theorem below_grown {w a b : World} {row : Option Nat} (h : Below w.heap.size w a) (k : a.grownBy b row) (hr : ∀ g, row = some g → w.heap.size ≤ g) : Below w.heap.size w b := h.grown k h.size hr

theorem fresh_nil {w w1 : World} {s : Nat} {b : Bool} (hb : Below w.heap.size w w1) (hs : s = w1.heap.size) : FreshSB [] b w (Ending.returned (.tuple #[.slice (some ⟨s, 0, none⟩) 0 0, .bool b])) (w1.alloc (.cells #[] 9)) := by
  subst hs
  exact ⟨_, _, rfl, own_mono (own_empty w1 _) hb.size, below_next hb (below_alloc1 w1 _)⟩

/-! ### exchanged letters -/
def ex (b : UInt8) : UInt8 := if b = 114 then 102 else if b = 102 then 114 else b
end Go.Proofs.Ytfiaidphcecnhaa
