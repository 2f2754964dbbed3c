/-
  CONTRACTS: numberOf, GridNumber of the program and of the reference.
-/
import Derived.Test.YthjllnabjnjpmaaJ
import Derived.Test.YthjllnabjnjpmaaI
namespace Go.Proofs.Ythjllnabjnjpmaa
set_option maxRecDepth 100000
open Go.RowKit

def dg (b : UInt8) : Nat := if b = 114 then 1 else if b = 102 then 2 else 0
theorem dg_le (b : UInt8) : dg b ≤ 2 := by unfold dg; split; omega; split <;> omega
def numL : List UInt8 → Nat
  | [] => 0
  | b :: l => dg b + 3 * numL l
theorem numL_snoc (l : List UInt8) (b : UInt8) : numL (l ++ [b]) = numL l + pw3 l.length * dg b := by
  induction l with
  | nil => simp [numL, pw3_zero]
  | cons a l ih =>
    rw [List.cons_append, numL, ih, numL, List.length_cons, pw3_succ, Nat.mul_add, Nat.add_assoc]
    congr 2
    rw [Nat.mul_comm (pw3 l.length) 3, Nat.mul_assoc]
theorem numL_lt (l : List UInt8) : numL l < pw3 l.length := by
  induction l with
  | nil => simp [numL, pw3_zero]
  | cons a l ih =>
    have := dg_le a
    rw [numL, List.length_cons, pw3_succ]; omega
def fl (g : List ByteArray) : List UInt8 := (g.map ByteArray.toList).flatten
theorem fl_snoc (g : List ByteArray) (s : ByteArray) : fl (g ++ [s]) = fl g ++ s.toList := by simp [fl]
theorem fl_length {g : List ByteArray} (m : Nat) (h : ∀ s ∈ g, s.size = m) : (fl g).length = g.length * m := by
  induction g with
  | nil => simp [fl]
  | cons s g ih =>
    have h1 := ih fun x hx => h x (List.mem_cons_of_mem _ hx)
    have h2 := h s (List.mem_cons_self ..)
    have h3 : (fl (s :: g)) = s.toList ++ fl g := by simp [fl]
    rw [h3, List.length_append, h1, toList_length, h2, List.length_cons, Nat.succ_mul]; omega
theorem fl_get {g : List ByteArray} (m : Nat) (hm : 0 < m) (h : ∀ s ∈ g, s.size = m) (q : Nat) (hq : q < g.length * m) :
    ∃ (h1 : q / m < g.length) (h2 : q % m < (g[q / m]'h1).size), (fl g)[q]? = some ((g[q / m]'h1)[q % m]'h2) := by
  induction g generalizing q with
  | nil => simp at hq
  | cons s g ih =>
    have h2 := h s (List.mem_cons_self ..)
    have h3 : (fl (s :: g)) = s.toList ++ fl g := by simp [fl]
    rcases Nat.lt_or_ge q m with hlt | hge
    · have e1 : q / m = 0 := Nat.div_eq_of_lt hlt
      have e2 : q % m = q := Nat.mod_eq_of_lt hlt
      refine ⟨by rw [e1]; simp, by simp only [e1, e2, List.getElem_cons_zero]; omega, ?_⟩
      simp only [e1, e2, List.getElem_cons_zero]
      rw [h3, List.getElem?_append_left (by rw [toList_length]; omega), List.getElem?_eq_getElem (by rw [toList_length]; omega), toList_get s q (by omega)]
    · obtain ⟨r, rfl⟩ : ∃ r, q = r + m := ⟨q - m, by omega⟩
      have e1 : (r + m) / m = r / m + 1 := Nat.add_div_right r hm
      have e2 : (r + m) % m = r % m := Nat.add_mod_right r m
      have hr : r < g.length * m := by rw [List.length_cons, Nat.succ_mul] at hq; omega
      obtain ⟨g1, g2, g3⟩ := ih (fun x hx => h x (List.mem_cons_of_mem _ hx)) r hr
      refine ⟨by rw [e1]; simp; exact g1, by simp only [e1, e2, List.getElem_cons_succ]; exact g2, ?_⟩
      simp only [e1, e2, List.getElem_cons_succ]
      rw [h3, List.getElem?_append_right (by rw [toList_length]; omega), toList_length, h2, Nat.add_sub_cancel]
      exact g3
def nAt (L : List UInt8) (s : ByteArray) (j : Nat) : Nat := numL (L ++ s.toList.take j)
def numG (g : List ByteArray) : Nat := numL (fl g)
def numB (g : List ByteArray) : Bool := gridB g && decide (cellsN g ≤ 20)
def numR (g : List ByteArray) : Nat := if numB g then numG g else 0


theorem wrap_div (q s : Nat) (h : q ≤ 1000000) : IntKind.i64.wrap ((q / s : Nat) : Int) = ((q / s : Nat) : Int) := IntWalk.i64_in _ (by
  have hx : q / s ≤ q := Nat.div_le_self _ _
  generalize q / s = x at *
  omega)
end Go.Proofs.Ythjllnabjnjpmaa
