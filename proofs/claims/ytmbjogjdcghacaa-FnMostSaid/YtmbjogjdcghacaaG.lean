/-
  CONTRACTS: l1None, sidesOk, exchanged, l1Other; RoundFull of the program and of the reference.
-/
import Derived.Test.YtmbjogjdcghacaaF
namespace Go.Proofs.Ytmbjogjdcghacaa
open Go.RowKit


/-- texts and a bool come back -/
def FreshSB (g : List ByteArray) (b : Bool) (w : World) (e : Ending) (w' : World) : Prop :=
  ∃ A c, e = .returned (.tuple #[.slice A g.length c, .bool b]) ∧ w'.ownsRow w.heap.size 9 1 (.slice A g.length c) g.length (sv g) ∧ Below w.heap.size w w'
theorem own_empty (w : World) (e : Nat) : (w.alloc (.cells #[] e)).ownsRow w.heap.size e 1 (.slice (some ⟨w.heap.size, 0, none⟩) 0 0) 0 [] := World.ownsRow_made w #[] 0 (Nat.le_refl _) (by decide) rfl
theorem below_grown {w a b : World} {row : Option Nat} (h : Below w.heap.size w a) (k : a.grownBy b row) (hr : ∀ g, row = some g → w.heap.size ≤ g) : Below w.heap.size w b := h.grown k h.size hr

theorem fresh_nil {w w1 : World} {s : Nat} {b : Bool} (hb : Below w.heap.size w w1) (hs : s = w1.heap.size) : FreshSB [] b w (Ending.returned (.tuple #[.slice (some ⟨s, 0, none⟩) 0 0, .bool b])) (w1.alloc (.cells #[] 9)) := by
  subst hs
  exact ⟨_, _, rfl, own_mono (own_empty w1 _) hb.size, below_next hb (below_alloc1 w1 _)⟩
def sidesB (n m : Int) : Bool := inB n 1 5 && inB m 1 5
theorem sidesOk_b (n m : Int) (b : Bool) (h : sidesB n m = b) (w : World) :
    Calls Try.prog 42 #[.int .i64 n, .int .i64 m] w fun e w' => e = .returned (.bool b) ∧ w = w' := by
  subst h
  unfold sidesB
  cases h1 : inB n 1 5
  · have H := Lib.hid h1
    go_enter Try.func42, Try.ntmps42
    go_wp2_with (go_at_call 48; refine (within_b _ _ _ _ H.out _).mono ?_; rintro e w' ⟨rfl, rfl⟩)
    go_ret
    exact ⟨rfl, rfl⟩
  · cases h2 : inB m 1 5
    · have H := Lib.hid h1
      have H2 := Lib.hid h2
      clear h1 h2
      go_enter Try.func42, Try.ntmps42
      go_wp2_with fail
      refine (within_b _ _ _ _ H.out _).mono ?_
      rintro e w' ⟨rfl, rfl⟩
      go_wp2_with fail
      refine (within_b _ _ _ _ H2.out _).mono ?_
      rintro e w' ⟨rfl, rfl⟩
      go_wp2
      go_ret
      exact ⟨rfl, rfl⟩
    · have H := Lib.hid h1
      have H2 := Lib.hid h2
      clear h1 h2
      go_enter Try.func42, Try.ntmps42
      go_wp2_with fail
      refine (within_b _ _ _ _ H.out _).mono ?_
      rintro e w' ⟨rfl, rfl⟩
      go_wp2_with fail
      refine (within_b _ _ _ _ H2.out _).mono ?_
      rintro e w' ⟨rfl, rfl⟩
      go_wp2
      go_ret
      exact ⟨rfl, rfl⟩

/-! ### exchanged letters -/
def ex (b : UInt8) : UInt8 := if b = 114 then 102 else if b = 102 then 114 else b
theorem exchanged_any (b : UInt8) (w : World) :
    Calls Try.prog 61 #[.int .u8 b.toNat] w fun e w' => e = .returned (.int .u8 (ex b).toNat) ∧ w = w' := by
  have hk1 := u8_114 b
  have hk2 := u8_102 b
  by_cases h1 : b = 114
  · have H : Hid (ex b = 102) := if_pos h1
    have hb1 : ((b.toNat : Int) == 114) = true := by rw [hk1, h1]; rfl
    clear hk1 hk2 h1
    go_enter Try.func61, Try.ntmps61
    go_wp2
    go_ret
    exact ⟨by rw [H.out]; rfl, rfl⟩
  · by_cases h2 : b = 102
    · have H : Hid (ex b = 114) := by unfold ex; rw [if_neg h1, if_pos h2]; rfl
      have hb1 : ((b.toNat : Int) == 114) = false := by rw [hk1]; exact beq_eq_false_iff_ne.2 h1
      have hb2 : ((b.toNat : Int) == 102) = true := by rw [hk2, h2]; rfl
      clear hk1 hk2 h1 h2
      go_enter Try.func61, Try.ntmps61
      go_wp2
      go_ret
      exact ⟨by rw [H.out]; rfl, rfl⟩
    · have H : Hid (ex b = b) := by unfold ex; rw [if_neg h1, if_neg h2]; rfl
      have hb1 : ((b.toNat : Int) == 114) = false := by rw [hk1]; exact beq_eq_false_iff_ne.2 h1
      have hb2 : ((b.toNat : Int) == 102) = false := by rw [hk2]; exact beq_eq_false_iff_ne.2 h2
      clear hk1 hk2 h1 h2
      go_enter Try.func61, Try.ntmps61
      go_wp2
      go_ret
      exact ⟨by rw [H.out]; rfl, rfl⟩
end Go.Proofs.Ytmbjogjdcghacaa
