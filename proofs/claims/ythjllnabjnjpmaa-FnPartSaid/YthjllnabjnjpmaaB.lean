/-
  CONTRACTS OF LEAVES: within, l6In, letterOk, l1Letter, szStringS, eqStringS, eqIntS.
-/
import Derived.Test.YthjllnabjnjpmaaRows
import Derived.Test.YthjllnabjnjpmaaA
namespace Go.Proofs.Ythjllnabjnjpmaa
set_option maxRecDepth 100000
open Go.RowKit

def inB (n lo hi : Int) : Bool := decide (lo ≤ n ∧ n ≤ hi)
theorem mul_bd {n m a b : Nat} (hn : n ≤ a) (hm : m ≤ b) : (n : Int) * (m : Int) ≤ (a * b : Nat) ∧ 0 ≤ (n : Int) * (m : Int) := by
  have h := Nat.mul_le_mul hn hm
  rw [← Int.natCast_mul]
  omega
theorem inB_iff {n lo hi : Int} : inB n lo hi = true ↔ lo ≤ n ∧ n ≤ hi := decide_eq_true_iff
theorem inB_iff_no {n lo hi : Int} : inB n lo hi = false ↔ ¬ (lo ≤ n ∧ n ≤ hi) := decide_eq_false_iff_not
theorem inB_yes {n lo hi : Int} (h : lo ≤ n ∧ n ≤ hi) : inB n lo hi = true := decide_eq_true h
theorem inB_no {n lo hi : Int} (h : ¬ (lo ≤ n ∧ n ≤ hi)) : inB n lo hi = false := decide_eq_false h

theorem within_any (n lo hi : Int) (w : World) :
    Calls Try.prog 32 #[.int .i64 n, .int .i64 lo, .int .i64 hi] w fun e w' => e = .returned (.bool (inB n lo hi)) ∧ w = w' := by
  by_cases h1 : lo ≤ n <;> by_cases h2 : n ≤ hi
  all_goals
    have H := Lib.hid (show inB n lo hi = _ from by unfold inB; simp only [h1, h2]; rfl)
    go_enter Try.func32, Try.ntmps32
    go_wp2
    go_ret
    exact ⟨by rw [H.out]; simp, rfl⟩
theorem within_b (n lo hi : Int) (b : Bool) (h : inB n lo hi = b) (w : World) :
    Calls Try.prog 32 #[.int .i64 n, .int .i64 lo, .int .i64 hi] w fun e w' => e = .returned (.bool b) ∧ w = w' := h ▸ within_any n lo hi w
theorem l6In_any (n lo hi : Int) (w : World) :
    Calls Try.prog 34 #[.int .i64 n, .int .i64 lo, .int .i64 hi] w fun e w' => e = .returned (.bool (inB n lo hi)) ∧ w = w' := by
  by_cases h1 : lo ≤ n <;> by_cases h2 : n ≤ hi
  all_goals
    have H := Lib.hid (show inB n lo hi = _ from by unfold inB; simp only [h1, h2]; rfl)
    go_enter Try.func34, Try.ntmps34
    go_wp2
    go_ret
    exact ⟨by rw [H.out]; simp, rfl⟩
theorem l6In_b (n lo hi : Int) (b : Bool) (h : inB n lo hi = b) (w : World) :
    Calls Try.prog 34 #[.int .i64 n, .int .i64 lo, .int .i64 hi] w fun e w' => e = .returned (.bool b) ∧ w = w' := h ▸ l6In_any n lo hi w

def letterB (b : UInt8) : Bool := b == 46 || b == 114 || b == 102
theorem u8_eq (b : UInt8) (k : Nat) (hk : k < 256) : ((b.toNat : Int) == (k : Int)) = (b == UInt8.ofNat k) := by
  rw [Bool.eq_iff_iff, beq_iff_eq, beq_iff_eq]
  constructor
  · intro h
    apply UInt8.toNat_inj.1
    rw [UInt8.toNat_ofNat']
    have : b.toNat = k := by exact_mod_cast h
    rw [this, Nat.mod_eq_of_lt hk]
  · intro h
    subst h
    rw [UInt8.toNat_ofNat', Nat.mod_eq_of_lt hk]
theorem u8_46 (b : UInt8) : ((b.toNat : Int) == 46) = (b == 46) := u8_eq b 46 (by decide)
theorem u8_114 (b : UInt8) : ((b.toNat : Int) == 114) = (b == 114) := u8_eq b 114 (by decide)
theorem u8_102 (b : UInt8) : ((b.toNat : Int) == 102) = (b == 102) := u8_eq b 102 (by decide)

theorem letterOk_any (b : UInt8) (w : World) :
    Calls Try.prog 39 #[.int .u8 b.toNat] w fun e w' => e = .returned (.bool (letterB b)) ∧ w = w' := by
  have H := Lib.hid (show letterB b = (((b.toNat : Int) == 46) || ((b.toNat : Int) == 114) || ((b.toNat : Int) == 102)) from by rw [u8_46, u8_114, u8_102]; rfl)
  by_cases h1 : ((b.toNat : Int) == 46) = true
  · go_enter Try.func39, Try.ntmps39
    go_wp2
    go_ret
    exact ⟨by rw [H.out, h1]; rfl, rfl⟩
  · have h1 := eq_false_of_ne_true h1
    by_cases h2 : ((b.toNat : Int) == 114) = true
    · go_enter Try.func39, Try.ntmps39
      go_wp2
      go_ret
      exact ⟨by rw [H.out, h1, h2]; rfl, rfl⟩
    · have h2 := eq_false_of_ne_true h2
      go_enter Try.func39, Try.ntmps39
      go_wp2
      go_ret
      exact ⟨by rw [H.out, h1, h2]; simp, rfl⟩
theorem letterOk_b (c : UInt8) (b : Bool) (h : letterB c = b) (w : World) :
    Calls Try.prog 39 #[.int .u8 c.toNat] w fun e w' => e = .returned (.bool b) ∧ w = w' := h ▸ letterOk_any c w
theorem l1Letter_any (b : UInt8) (w : World) :
    Calls Try.prog 41 #[.int .u8 b.toNat] w fun e w' => e = .returned (.bool (letterB b)) ∧ w = w' := by
  have H := Lib.hid (show letterB b = (((b.toNat : Int) == 46) || ((b.toNat : Int) == 114) || ((b.toNat : Int) == 102)) from by rw [u8_46, u8_114, u8_102]; rfl)
  by_cases h1 : ((b.toNat : Int) == 46) = true
  · go_enter Try.func41, Try.ntmps41
    go_wp2
    go_ret
    exact ⟨by rw [H.out, h1]; rfl, rfl⟩
  · have h1 := eq_false_of_ne_true h1
    by_cases h2 : ((b.toNat : Int) == 114) = true
    · go_enter Try.func41, Try.ntmps41
      go_wp2
      go_ret
      exact ⟨by rw [H.out, h1, h2]; rfl, rfl⟩
    · have h2 := eq_false_of_ne_true h2
      go_enter Try.func41, Try.ntmps41
      go_wp2
      go_ret
      exact ⟨by rw [H.out, h1, h2]; simp, rfl⟩
theorem l1Letter_b (c : UInt8) (b : Bool) (h : letterB c = b) (w : World) :
    Calls Try.prog 41 #[.int .u8 c.toNat] w fun e w' => e = .returned (.bool b) ∧ w = w' := h ▸ l1Letter_any c w

/-! ### the size of a list of texts -/
def sumSz (g : List ByteArray) : Int := (g.map fun s => (s.size : Int)).sum
theorem sumSz_take (g : List ByteArray) (k : Nat) (h : k < g.length) : sumSz (g.take (k + 1)) = sumSz (g.take k) + g[k].size := by
  unfold sumSz
  rw [List.take_succ_eq_append_getElem h, List.map_append, List.sum_append]
  simp
theorem sumSz_nonneg (g : List ByteArray) : 0 ≤ sumSz g := by
  induction g with
  | nil => simp [sumSz]
  | cons a l ih => simp [sumSz] at *; omega
theorem sumSz_take_le (g : List ByteArray) (k : Nat) : sumSz (g.take k) ≤ sumSz g := by
  conv => rhs; rw [← List.take_append_drop k g]
  have := sumSz_nonneg (g.drop k)
  unfold sumSz at *
  rw [List.map_append, List.sum_append]; omega
theorem sumSz_mem {g : List ByteArray} {s : ByteArray} (h : s ∈ g) : (s.size : Int) ≤ sumSz g := by
  induction g with
  | nil => cases h
  | cons a l ih =>
    have h2 := sumSz_nonneg l
    rcases List.mem_cons.1 h with rfl | h
    · simp [sumSz] at *; omega
    · have := ih h
      simp [sumSz] at *; omega
/-- what szStringS leaves of a budget -/
def szL (g : List ByteArray) (left : Int) : Int := if (g.length : Int) + sumSz g ≤ left then left - g.length - sumSz g else -1
theorem szL_eq {g : List ByteArray} {left : Int} (h : (g.length : Int) + sumSz g ≤ left) : szL g left = left - g.length - sumSz g := if_pos h
theorem szL_no {g : List ByteArray} {left : Int} (h : left < (g.length : Int) + sumSz g) : szL g left = -1 := if_neg (by omega)


/-! ### two lists of texts, two lists of numbers are equal -/
theorem take_eq_of (n : Nat) {α : Type} (a b : List α) (ha : a.length = n) (hb : b.length = n) (h : a.take n = b.take n) : a = b := by
  rw [List.take_of_length_le (by omega), List.take_of_length_le (by omega)] at h; exact h
theorem take_snoc_eq {α : Type} (a b : List α) (k : Nat) (ha : k < a.length) (hb : k < b.length) (h : a.take k = b.take k) (e : a[k] = b[k]) : a.take (k + 1) = b.take (k + 1) := by
  rw [List.take_succ_eq_append_getElem ha, List.take_succ_eq_append_getElem hb, h, e]
theorem ne_of_get {α : Type} (a b : List α) (k : Nat) (ha : k < a.length) (hb : k < b.length) (e : a[k] ≠ b[k]) : a ≠ b := by
  rintro rfl; exact e rfl

end Go.Proofs.Ythjllnabjnjpmaa
