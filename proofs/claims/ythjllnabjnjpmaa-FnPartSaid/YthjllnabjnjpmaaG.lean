/-
  CONTRACTS: l1None, sidesOk, exchanged, l1Other; RoundFull of the program and of the reference.
-/
import Derived.Test.YthjllnabjnjpmaaF
namespace Go.Proofs.Ythjllnabjnjpmaa
set_option maxRecDepth 100000
open Go.RowKit


/-- texts and a bool come back -/
def FreshSB (g : List ByteArray) (b : Bool) (w : World) (e : Ending) (w' : World) : Prop :=
  ∃ A c, e = .returned (.tuple #[.slice A g.length c, .bool b]) ∧ w'.ownsRow w.heap.size 9 1 (.slice A g.length c) g.length (sv g) ∧ Below w.heap.size w w'
theorem own_empty (w : World) (e : Nat) : (w.alloc (.cells #[] e)).ownsRow w.heap.size e 1 (.slice (some ⟨w.heap.size, 0, none⟩) 0 0) 0 [] := World.ownsRow_made w #[] 0 (Nat.le_refl _) (by decide) rfl
theorem below_grown {w a b : World} {row : Option Nat} (h : Below w.heap.size w a) (k : a.grownBy b row) (hr : ∀ g, row = some g → w.heap.size ≤ g) : Below w.heap.size w b := h.grown k h.size hr

theorem fresh_nil {w w1 : World} {s : Nat} {b : Bool} (hb : Below w.heap.size w w1) (hs : s = w1.heap.size) : FreshSB [] b w (Ending.returned (.tuple #[.slice (some ⟨s, 0, none⟩) 0 0, .bool b])) (w1.alloc (.cells #[] 9)) := by
  subst hs
  exact ⟨_, _, rfl, own_mono (own_empty w1 _) hb.size, below_next hb (below_alloc1 w1 _)⟩
theorem l1None_any (w : World) : Calls Try.prog 35 #[] w (FreshSB [] false w) := by
  go_enter Try.func35, Try.ntmps35
  go_wp2
  go_ret2
  exact ⟨_, _, rfl, own_empty w _, below_alloc1 w _⟩
def sidesB (n m : Int) : Bool := inB n 1 5 && inB m 1 5
theorem sidesOk_b (n m : Int) (b : Bool) (h : sidesB n m = b) (w : World) :
    Calls Try.prog 44 #[.int .i64 n, .int .i64 m] w fun e w' => e = .returned (.bool b) ∧ w = w' := by
  subst h
  unfold sidesB
  cases h1 : inB n 1 5
  · have H := Lib.hid h1
    go_enter Try.func44, Try.ntmps44
    go_wp2_with (go_at_call 32; refine (within_b _ _ _ _ H.out _).mono ?_; rintro e w' ⟨rfl, rfl⟩)
    go_ret
    exact ⟨rfl, rfl⟩
  · cases h2 : inB m 1 5
    · have H := Lib.hid h1
      have H2 := Lib.hid h2
      clear h1 h2
      go_enter Try.func44, Try.ntmps44
      go_wp2_with fail
      refine (within_b _ _ _ _ H.out _).mono ?_
      rintro e w' ⟨rfl, rfl⟩
      go_wp2_with fail
      refine (within_b _ _ _ _ H2.out _).mono ?_
      rintro e w' ⟨rfl, rfl⟩
      go_wp2
      go_ret
      exact ⟨rfl, rfl⟩
    · have H := Lib.hid h1
      have H2 := Lib.hid h2
      clear h1 h2
      go_enter Try.func44, Try.ntmps44
      go_wp2_with fail
      refine (within_b _ _ _ _ H.out _).mono ?_
      rintro e w' ⟨rfl, rfl⟩
      go_wp2_with fail
      refine (within_b _ _ _ _ H2.out _).mono ?_
      rintro e w' ⟨rfl, rfl⟩
      go_wp2
      go_ret
      exact ⟨rfl, rfl⟩

/-! ### exchanged letters -/
def ex (b : UInt8) : UInt8 := if b = 114 then 102 else if b = 102 then 114 else b
end Go.Proofs.Ythjllnabjnjpmaa
