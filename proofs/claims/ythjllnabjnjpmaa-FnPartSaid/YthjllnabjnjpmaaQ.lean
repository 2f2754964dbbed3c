/-
  CONTRACTS: GridUnder of the program and of the reference.
-/
import Derived.Test.YthjllnabjnjpmaaO
namespace Go.Proofs.Ythjllnabjnjpmaa
set_option maxRecDepth 100000
open Go.RowKit

theorem addr_add (b off i : Nat) : (⟨b, off, none⟩ : Addr).add i = ⟨b, off + i, none⟩ := by
  unfold Addr.add; split
  · subst_vars; rfl
  · rfl
theorem news_of_rd {w : World} {B b off : Nat} {xs : List Value} (h : Rd w B (some ⟨b, off, none⟩) xs) : ∀ j u, xs[j]? = some u → w.cell? ((⟨b, off, none⟩ : Addr).add j) = some u := fun j u hu => by
  rw [addr_add]; exact h.cell hu
theorem sv_one (g : List ByteArray) : ∀ u ∈ sv g, u.oneCell' = true := by
  intro u hu
  obtain ⟨s, _, rfl⟩ := List.mem_map.1 hu
  rfl
theorem sv_append (g h : List ByteArray) : sv (g ++ h) = sv g ++ sv h := by simp [sv]
def underB (g h : List ByteArray) : Bool := gridB g && gridB h && gridB (g ++ h)
theorem underB_g {g h : List ByteArray} (e : gridB g = false) : underB g h = false := by unfold underB; rw [e]; rfl
theorem underB_h {g h : List ByteArray} (e : gridB h = false) : underB g h = false := by unfold underB; rw [e, Bool.and_false]; rfl
theorem underB_all {g h : List ByteArray} (e1 : gridB g = true) (e2 : gridB h = true) : underB g h = gridB (g ++ h) := by unfold underB; rw [e1, e2]; rfl
theorem width_append {g h : List ByteArray} (hg : 0 < g.length) : width (g ++ h) = width g := by
  unfold width
  rw [List.getD_eq_getElem?_getD, List.getD_eq_getElem?_getD, List.getElem?_append_left hg]
theorem under_wide {g h : List ByteArray} (e1 : gridB g = true) (e2 : gridB h = true) (hne : width g ≠ width h) : gridB (g ++ h) = false := by
  have h1 := grid_len e1
  have h2 := grid_len e2
  refine gridB_row (k := g.length) (by rw [List.length_append]; omega) ?_
  rw [List.getElem_append_right (Nat.le_refl _), width_append (by omega)]
  refine rowB_size ?_
  rw [grid_row e2]
  exact fun e => hne e.symm
theorem app_maxLen {g h : List ByteArray} (hs : ∀ s ∈ g, s.size ≤ maxLen) (hs2 : ∀ s ∈ h, s.size ≤ maxLen) : ∀ s ∈ g ++ h, s.size ≤ maxLen := fun s hx => by
  rcases List.mem_append.1 hx with h | h
  · exact hs s h
  · exact hs2 s h

theorem len_gridunder (g h : List ByteArray) : (orNone2 (underB g h) (g ++ h)).length ≤ 100 := by
  cases hb : underB g h
  · exact Nat.zero_le _
  · unfold underB at hb
    have h1 := grid_len (Bool.and_eq_true_iff.1 hb).2
    show (g ++ h).length ≤ 100
    omega
end Go.Proofs.Ythjllnabjnjpmaa
