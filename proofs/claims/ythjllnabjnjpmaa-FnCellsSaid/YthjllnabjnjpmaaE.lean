/-
  CONTRACTS: markText, markStringS, heldStringS.
-/
import Derived.Test.YthjllnabjnjpmaaC
namespace Go.Proofs.Ythjllnabjnjpmaa
set_option maxRecDepth 100000
open Go.RowKit

def dgt (k : Nat) : UInt8 := UInt8.ofNat (48 + k % 10)
theorem dgt_nat (k : Nat) : ((dgt k).toNat : Int) = 48 + (k : Int) % 10 := by unfold dgt; rw [UInt8.toNat_ofNat']; omega
/-- the decimal digits of a number ahead of what is there; f: fuel -/
def dgF : Nat → Nat → List UInt8 → List UInt8
  | 0, _, acc => acc
  | f + 1, k, acc => if k = 0 then acc else dgF f (k / 10) (dgt k :: acc)
theorem dgF_fuel : ∀ (f k : Nat) (acc : List UInt8), k ≤ f → dgF f k acc = dgF k k acc
  | 0, k, acc, h => by obtain rfl : k = 0 := by omega
                       rfl
  | f + 1, k, acc, h => by
    by_cases h0 : k = 0
    · subst h0; simp [dgF]
    · obtain ⟨j, rfl⟩ : ∃ j, k = j + 1 := ⟨k - 1, by omega⟩
      have hq : (j + 1) / 10 ≤ j := by omega
      simp only [dgF, if_neg h0]
      rw [dgF_fuel f _ _ (by omega), dgF_fuel j _ _ hq]
theorem dgF_step {k : Nat} (acc : List UInt8) (h : 0 < k) : dgF k k acc = dgF (k / 10) (k / 10) (dgt k :: acc) := by
  obtain ⟨j, rfl⟩ : ∃ j, k = j + 1 := ⟨k - 1, by omega⟩
  conv => lhs; unfold dgF
  rw [if_neg (by omega), dgF_fuel j _ _ (by omega)]
def mkT (k : Nat) : ByteArray := if k = 0 then ⟨#[109, 48]⟩ else bs (109 :: dgF k k [])


/-- the texts that the marks are: k, k + 1, .. -/
def marks (n k : Nat) : List ByteArray := (List.range n).map fun i => mkT (k + i)
theorem marks_length (n k : Nat) : (marks n k).length = n := by simp [marks]
theorem marks_succ (n k : Nat) : marks (n + 1) k = marks n k ++ [mkT (k + n)] := by simp [marks, List.range_succ]
theorem marks_get (n k i : Nat) (h : i < n) : (marks n k)[i]? = some (mkT (k + i)) := by simp [marks, h]
theorem marks_getElem (n k i : Nat) (h : i < (marks n k).length) : (marks n k)[i] = mkT (k + i) := by simp [marks]
theorem marks_take (n k i : Nat) (h : i ≤ n) : (marks n k).take i = marks i k := by
  unfold marks
  rw [← List.map_take, List.take_range, Nat.min_eq_left h]

end Go.Proofs.Ythjllnabjnjpmaa
