/-
  PLAIN LAWS, NO Go IN SIGHT: ways of light in a field of letters: a step, the way back, what is entered from a port.
-/
import Derived.Test.YthjllnabjnjpmaaA
namespace Go.Proofs.Ythjllnabjnjpmaa
set_option maxRecDepth 100000

/-- row, column, direction (0 up, 1 right, 2 down, 3 left) with which a cell is entered -/
structure St where
  r : Nat
  c : Nat
  d : Nat
  deriving DecidableEq

/-- rows, columns, letters -/
structure Fd where
  n : Nat
  m : Nat
  L : Nat → Nat → UInt8

def turnD (b : UInt8) (d : Nat) : Nat := if b = 114 then (if d = 0 then 1 else if d = 1 then 0 else if d = 2 then 3 else 2) else if b = 102 then 3 - d else d
theorem turnD_lt (b : UInt8) (d : Nat) (h : d < 4) : turnD b d < 4 := by
  unfold turnD; repeat' split
  all_goals omega
theorem turnD_cases (b : UInt8) : turnD b = turnD 114 ∨ turnD b = turnD 102 ∨ turnD b = turnD 46 := by
  by_cases h1 : b = 114
  · subst h1; exact .inl rfl
  · by_cases h2 : b = 102
    · subst h2; exact .inr (.inl rfl)
    · refine .inr (.inr ?_)
      funext d
      unfold turnD
      rw [if_neg h1, if_neg h2]; rfl
theorem turnD_back (b : UInt8) (d : Nat) (h : d < 4) : turnD b ((turnD b d + 2) % 4) = (d + 2) % 4 := by
  have hd : d = 0 ∨ d = 1 ∨ d = 2 ∨ d = 3 := by omega
  rcases turnD_cases b with e | e | e <;> rw [e] <;> rcases hd with rfl | rfl | rfl | rfl <;> rfl
theorem turnD_ne (b : UInt8) (d : Nat) (h : d < 4) : (turnD b d + 2) % 4 ≠ d := by
  have hd : d = 0 ∨ d = 1 ∨ d = 2 ∨ d = 3 := by omega
  rcases turnD_cases b with e | e | e <;> rw [e] <;> rcases hd with rfl | rfl | rfl | rfl <;> decide

namespace Fd
variable (F : Fd)
def Ok (s : St) : Prop := s.r < F.n ∧ s.c < F.m ∧ s.d < 4
def out (s : St) : Nat := turnD (F.L s.r s.c) s.d
def ports : Nat := 2 * F.n + 2 * F.m
/-- the port at which the field is left behind s -/
def exit (s : St) : Option Nat :=
  if F.out s = 0 then (if s.r = 0 then some s.c else none)
  else if F.out s = 1 then (if s.c + 1 = F.m then some (F.m + s.r) else none)
  else if F.out s = 2 then (if s.r + 1 = F.n then some (2 * F.m + F.n - 1 - s.c) else none)
  else (if s.c = 0 then some (2 * F.m + 2 * F.n - 1 - s.r) else none)
def step (s : St) : St :=
  if F.out s = 0 then ⟨s.r - 1, s.c, 0⟩ else if F.out s = 1 then ⟨s.r, s.c + 1, 1⟩ else if F.out s = 2 then ⟨s.r + 1, s.c, 2⟩ else ⟨s.r, s.c - 1, 3⟩
def rev (s : St) : St := ⟨s.r, s.c, (F.out s + 2) % 4⟩
def enter (p : Nat) : St :=
  if p < F.m then ⟨0, p, 2⟩ else if p < F.m + F.n then ⟨p - F.m, F.m - 1, 3⟩ else if p < 2 * F.m + F.n then ⟨F.n - 1, 2 * F.m + F.n - 1 - p, 0⟩ else ⟨2 * F.m + 2 * F.n - 1 - p, 0, 1⟩

variable {F}
theorem out_lt {s : St} (h : F.Ok s) : F.out s < 4 := turnD_lt _ _ h.2.2
theorem rev_ok {s : St} (h : F.Ok s) : F.Ok (F.rev s) := ⟨h.1, h.2.1, Nat.mod_lt _ (by decide)⟩
theorem out_rev {s : St} (h : F.Ok s) : F.out (F.rev s) = (s.d + 2) % 4 := turnD_back _ _ h.2.2
theorem rev_rev {s : St} (h : F.Ok s) : F.rev (F.rev s) = s := by
  have hd := h.2.2
  show (⟨s.r, s.c, (F.out (F.rev s) + 2) % 4⟩ : St) = s
  rw [out_rev h]
  have : ((s.d + 2) % 4 + 2) % 4 = s.d := by omega
  rw [this]
theorem rev_ne {s : St} (h : F.Ok s) : F.rev s ≠ s := fun e => turnD_ne (F.L s.r s.c) s.d h.2.2 (congrArg St.d e)
theorem step_ok {s : St} (h : F.Ok s) (he : F.exit s = none) : F.Ok (F.step s) := by
  obtain ⟨h1, h2, h3⟩ := h
  unfold exit at he
  unfold step Ok
  have h4 := out_lt ⟨h1, h2, h3⟩
  split
  · rename_i e; rw [if_pos e] at he; split at he
    · cases he
    · exact ⟨by simp only; omega, h2, (show 0 < 4 by omega)⟩
  · rename_i e0; rw [if_neg e0] at he; split
    · rename_i e; rw [if_pos e] at he; split at he
      · cases he
      · exact ⟨h1, by simp only; omega, (show 1 < 4 by omega)⟩
    · rename_i e1; rw [if_neg e1] at he; split
      · rename_i e; rw [if_pos e] at he; split at he
        · cases he
        · exact ⟨by simp only; omega, h2, (show 2 < 4 by omega)⟩
      · rename_i e; rw [if_neg e] at he; split at he
        · cases he
        · exact ⟨h1, by simp only; omega, (show 3 < 4 by omega)⟩
/-- a step leads to another cell -/
theorem step_cell {s : St} (_h : F.Ok s) (he : F.exit s = none) : (F.step s).r ≠ s.r ∨ (F.step s).c ≠ s.c := by
  unfold exit at he
  unfold step
  split
  · rename_i e; rw [if_pos e] at he; split at he
    · cases he
    · left; simp only; omega
  · rename_i e0; rw [if_neg e0] at he; split
    · right; simp only; omega
    · rename_i e1; rw [if_neg e1] at he; split
      · left; simp only; omega
      · rename_i e; rw [if_neg e] at he; split at he
        · cases he
        · right; simp only; omega
/-- the way back from the next cell -/
theorem back {s : St} (h : F.Ok s) (he : F.exit s = none) : F.exit (F.rev (F.step s)) = none ∧ F.step (F.rev (F.step s)) = F.rev s := by
  have hs := step_ok h he
  have ho := out_rev hs
  have h4 := out_lt h
  obtain ⟨h1, h2, h3⟩ := h
  have hcase : F.out s = 0 ∨ F.out s = 1 ∨ F.out s = 2 ∨ F.out s = 3 := by omega
  unfold exit at he
  rcases hcase with e | e | e | e
  · have hst : F.step s = ⟨s.r - 1, s.c, 0⟩ := by unfold step; rw [if_pos e]
    rw [if_pos e] at he
    have hr : s.r ≠ 0 := by intro h0; rw [if_pos h0] at he; cases he
    rw [hst] at ho hs ⊢
    have hr2 : F.rev (⟨s.r - 1, s.c, 0⟩ : St) = ⟨s.r - 1, s.c, (F.out ⟨s.r - 1, s.c, 0⟩ + 2) % 4⟩ := rfl
    rw [hr2] at ho ⊢
    unfold exit step rev
    rw [ho, e]
    simp only
    constructor
    · rw [if_neg (by decide), if_neg (by decide), if_pos (by decide), if_neg (by omega)]
    · rw [if_neg (by decide), if_neg (by decide), if_pos (by decide)]
      congr 1; omega
  · have hst : F.step s = ⟨s.r, s.c + 1, 1⟩ := by unfold step; rw [if_neg (by omega), if_pos e]
    rw [if_neg (by omega), if_pos e] at he
    have hr : s.c + 1 ≠ F.m := by intro h0; rw [if_pos h0] at he; cases he
    rw [hst] at ho hs ⊢
    have hr2 : F.rev (⟨s.r, s.c + 1, 1⟩ : St) = ⟨s.r, s.c + 1, (F.out ⟨s.r, s.c + 1, 1⟩ + 2) % 4⟩ := rfl
    rw [hr2] at ho ⊢
    unfold exit step rev
    rw [ho, e]
    simp only
    constructor
    · rw [if_neg (by decide), if_neg (by decide), if_neg (by decide), if_neg (by omega)]
    · rw [if_neg (by decide), if_neg (by decide), if_neg (by decide)]
      congr 1
  · have hst : F.step s = ⟨s.r + 1, s.c, 2⟩ := by unfold step; rw [if_neg (by omega), if_neg (by omega), if_pos e]
    rw [if_neg (by omega), if_neg (by omega), if_pos e] at he
    have hr : s.r + 1 ≠ F.n := by intro h0; rw [if_pos h0] at he; cases he
    rw [hst] at ho hs ⊢
    have hr2 : F.rev (⟨s.r + 1, s.c, 2⟩ : St) = ⟨s.r + 1, s.c, (F.out ⟨s.r + 1, s.c, 2⟩ + 2) % 4⟩ := rfl
    rw [hr2] at ho ⊢
    unfold exit step rev
    rw [ho, e]
    simp only
    constructor
    · rw [if_pos (by decide), if_neg (by omega)]
    · rw [if_pos (by decide)]
      congr 1
  · have hst : F.step s = ⟨s.r, s.c - 1, 3⟩ := by unfold step; rw [if_neg (by omega), if_neg (by omega), if_neg (by omega)]
    rw [if_neg (by omega), if_neg (by omega), if_neg (by omega)] at he
    have hr : s.c ≠ 0 := by intro h0; rw [if_pos h0] at he; cases he
    rw [hst] at ho hs ⊢
    have hr2 : F.rev (⟨s.r, s.c - 1, 3⟩ : St) = ⟨s.r, s.c - 1, (F.out ⟨s.r, s.c - 1, 3⟩ + 2) % 4⟩ := rfl
    rw [hr2] at ho ⊢
    unfold exit step rev
    rw [ho, e]
    simp only
    constructor
    · rw [if_neg (by decide), if_pos (by decide), if_neg (by omega)]
    · rw [if_neg (by decide), if_pos (by decide)]
      congr 1; omega
theorem enter_ok (hn : 1 ≤ F.n) (hm : 1 ≤ F.m) {p : Nat} (hp : p < F.ports) : F.Ok (F.enter p) := by
  unfold ports at hp
  unfold enter Ok
  split
  · exact ⟨by simp only; omega, by simp only; omega, (show 2 < 4 by omega)⟩
  · split
    · exact ⟨by simp only; omega, by simp only; omega, (show 3 < 4 by omega)⟩
    · split
      · exact ⟨by simp only; omega, by simp only; omega, (show 0 < 4 by omega)⟩
      · exact ⟨by simp only; omega, by simp only; omega, (show 1 < 4 by omega)⟩
end Fd
end Go.Proofs.Ythjllnabjnjpmaa
