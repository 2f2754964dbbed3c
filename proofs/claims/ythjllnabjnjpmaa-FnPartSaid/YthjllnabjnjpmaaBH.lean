/-
  CONTRACTS: l2Often, timesIn, BeamTwice of the program and of the reference.
-/
import Derived.Test.YthjllnabjnjpmaaBG
namespace Go.Proofs.Ythjllnabjnjpmaa
set_option maxRecDepth 100000
open Go.RowKit

theorem int_beq_no {a b : Nat} (h : a ≠ b) : ((a : Int) == (b : Int)) = false := beq_eq_false_iff_ne.2 (by omega)
theorem int_beq_yes {a b : Nat} (h : a = b) : ((a : Int) == (b : Int)) = true := by rw [h]; exact beq_self_eq_true _
theorem often_take (l : List Nat) (x k : Nat) (hk : k < l.length) : often (l.take (k + 1)) x = often (l.take k) x + if l[k] = x then 1 else 0 := by
  rw [List.take_succ_eq_append_getElem hk, often_snoc]
theorem often_take_le (l : List Nat) (x k : Nat) : often (l.take k) x ≤ k := Nat.le_trans (often_le _ _) (List.length_take_le _ _)
/-- how often each number below M is in a list -/
def cnts (M : Nat) (l : List Nat) : List Nat := (List.range M).map fun c => often l c
theorem cnts_length (M : Nat) (l : List Nat) : (cnts M l).length = M := by simp [cnts]
theorem cnts_get (M : Nat) (l : List Nat) (c : Nat) (hc : c < M) : (cnts M l)[c]'(by rw [cnts_length]; exact hc) = often l c := by simp [cnts]
theorem cnts_set (M : Nat) (l : List Nat) (x : Nat) (_hx : x < M) : (iv (ni (cnts M l))).set x (.int .i64 ((often l x : Nat) + 1)) = iv (ni (cnts M (l ++ [x]))) := by
  refine List.ext_getElem (by simp [iv, ni, cnts]) fun k h1 h2 => ?_
  rw [List.getElem_set]
  simp only [iv, ni, cnts, List.getElem_map, List.getElem_range]
  rw [often_snoc]
  by_cases h : x = k
  · subst h; rw [if_pos rfl, if_pos rfl]; rfl
  · rw [if_neg h, if_neg h]; rfl
theorem cnts_nil (M : Nat) : (madeCells #[Value.int .i64 0] M).toList = iv (ni (cnts M [])) := by
  refine List.ext_getElem (by simp [madeCells, iv, ni, cnts]) fun k h1 h2 => ?_
  simp [madeCells, iv, ni, cnts, often_nil, Nat.mod_one]
noncomputable def twiceA (g : List ByteArray) (p : Int) : Nat := cntB (cellsN g) fun c => often (wayA g p) c == 2
theorem twiceA_no {g : List ByteArray} {p : Int} (h : givenB g p = false) : twiceA g p = 0 := by
  unfold twiceA
  rw [wayA_no h]
  exact cntB_none _ fun x _ => rfl
theorem way_often {g : List ByteArray} (p : Int) (x : Nat) : often (wayA g p) x ≤ 2 := by
  cases hb : givenB g p
  · rw [wayA_no hb]; exact Nat.zero_le _
  · obtain ⟨k, rfl, hk, hg⟩ := given_nat hb
    obtain ⟨he, _⟩ := ends_B hg hk
    rw [wayA_yes hb]
    exact Fd.way_two (grid_hn hg) (grid_hm hg) (by rw [ports_fld]; exact hk) he x
theorem cells_25 {g : List ByteArray} (hg : gridB g = true) : cellsN g ≤ 25 := by
  have := (mul_bd (grid_len hg).2 (grid_width hg).2).1
  rw [← Int.natCast_mul] at this
  unfold cellsN; omega
end Go.Proofs.Ythjllnabjnjpmaa
