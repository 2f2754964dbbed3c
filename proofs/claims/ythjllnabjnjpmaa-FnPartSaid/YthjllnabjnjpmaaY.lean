/-
  PLAIN LAWS OF GRIDS: turned, flipped, exchanged.
-/
import Derived.Test.YthjllnabjnjpmaaS
namespace Go.Proofs.Ythjllnabjnjpmaa
set_option maxRecDepth 100000
open Go.RowKit

theorem ex_ex (b : UInt8) : ex (ex b) = b := by
  unfold ex
  repeat' split
  all_goals simp_all
theorem letter_ex (b : UInt8) (h : letterB b = true) : letterB (ex b) = true := by
  unfold ex
  repeat' split
  · rfl
  · rfl
  · exact h
theorem mkG_ext {n m : Nat} {f f' : Nat → Nat → UInt8} (h : ∀ r c, r < n → c < m → f r c = f' r c) : mkG n m f = mkG n m f' := by
  refine List.ext_getElem (by rw [mkG_length, mkG_length]) fun r h1 h2 => ?_
  rw [mkG_getElem, mkG_getElem]
  congr 1
  refine List.ext_getElem (by rw [rowOf_length, rowOf_length]) fun c h3 h4 => ?_
  rw [rowOf_getElem, rowOf_getElem]
  exact h r c (by rw [mkG_length] at h1; exact h1) (by rw [rowOf_length] at h3; exact h3)
theorem width_mk {n m : Nat} (f : Nat → Nat → UInt8) (hn : 1 ≤ n) : width (mkG n m f) = m := by
  unfold width
  rw [List.getD_eq_getElem?_getD, List.getElem?_eq_getElem (by rw [mkG_length]; omega), mkG_getElem]
  simp only [Option.getD_some]
  rw [bs_size, rowOf_length]
theorem cell_mk {n m : Nat} (f : Nat → Nat → UInt8) {r c : Nat} (hr : r < n) (hc : c < m) : cellAt (mkG n m f) r c = f r c := by
  have h1 : r < (mkG n m f).length := by rw [mkG_length]; exact hr
  have e : (mkG n m f).getD r ⟨#[]⟩ = bs (rowOf m (f r)) := by
    rw [List.getD_eq_getElem?_getD, List.getElem?_eq_getElem h1, mkG_getElem]; rfl
  unfold cellAt
  rw [e, bs_toList, List.getD_eq_getElem?_getD, List.getElem?_eq_getElem (by rw [rowOf_length]; exact hc), rowOf_getElem]
  rfl
theorem grid_mk {n m : Nat} {f : Nat → Nat → UInt8} (hn : 1 ≤ n ∧ n ≤ 5) (hm : 1 ≤ m ∧ m ≤ 5) (h : ∀ r c, r < n → c < m → letterB (f r c) = true) : gridB (mkG n m f) = true := by
  refine gridB_iff.2 ⟨by rw [mkG_length]; exact hn, by rw [width_mk f hn.1]; exact hm, fun k hk => ?_⟩
  rw [width_mk f hn.1, mkG_getElem, rowB_iff]
  have hsz : (bs (rowOf m (f k))).size = m := by rw [bs_size, rowOf_length]
  refine ⟨hsz, fun j hj => ?_⟩
  rw [hsz] at hj
  have hk' : k < n := by rw [mkG_length] at hk; exact hk
  have := cell_mk f hk' hj
  rw [cellAt_eq (by rw [mkG_length]; exact hk') (by rw [mkG_getElem, hsz]; exact hj)] at this
  have e : (mkG n m f)[k]'(by rw [mkG_length]; exact hk') = bs (rowOf m (f k)) := mkG_getElem _ _ _ _ _
  simp only [e] at this
  rw [this]
  exact h k j hk' hj
theorem cell_letter {g : List ByteArray} (hg : gridB g = true) {r c : Nat} (hr : r < g.length) (hc : c < width g) : letterB (cellAt g r c) = true := by
  have hs := grid_row hg r hr
  rw [cellAt_eq hr (by rw [hs]; exact hc)]
  exact grid_letter hg r hr c (by rw [hs]; exact hc)
theorem grid_turn {g : List ByteArray} (hg : gridB g = true) : gridB (gTurn g) = true :=
  grid_mk (grid_width hg) (grid_len hg) fun r c hr hc => letter_ex _ (cell_letter hg (by omega) hr)
theorem grid_flip {g : List ByteArray} (hg : gridB g = true) : gridB (gFlip g) = true :=
  grid_mk (grid_len hg) (grid_width hg) fun r c hr hc => letter_ex _ (cell_letter hg hr (by omega))
theorem grid_other {g : List ByteArray} (hg : gridB g = true) : gridB (gOther g) = true :=
  grid_mk (grid_len hg) (grid_width hg) fun _ _ hr hc => letter_ex _ (cell_letter hg hr hc)
theorem grid_take {g : List ByteArray} (hg : gridB g = true) {k : Nat} (hk : 1 ≤ k) (hkl : k ≤ g.length) : gridB (g.take k) = true := by
  have hl : (g.take k).length = k := by rw [List.length_take]; omega
  have hw : width (g.take k) = width g := by
    unfold width
    rw [List.getD_eq_getElem?_getD, List.getD_eq_getElem?_getD, List.getElem?_take]
    rw [if_pos (by omega)]
  have h1 := grid_len hg
  refine gridB_iff.2 ⟨by omega, by rw [hw]; exact grid_width hg, fun j hj => ?_⟩
  rw [hw, List.getElem_take]
  exact (gridB_iff.1 hg).2.2 j (by omega)
theorem turn_len {g : List ByteArray} : (gTurn g).length = width g := mkG_length _ _ _
theorem turn_width {g : List ByteArray} (hg : gridB g = true) : width (gTurn g) = g.length := width_mk _ (grid_width hg).1
theorem cell_turn {g : List ByteArray} (_hg : gridB g = true) {r c : Nat} (hr : r < width g) (hc : c < g.length) : cellAt (gTurn g) r c = ex (cellAt g (g.length - 1 - c) r) := cell_mk _ hr hc
theorem flip_len {g : List ByteArray} : (gFlip g).length = g.length := mkG_length _ _ _
theorem flip_width {g : List ByteArray} (hg : gridB g = true) : width (gFlip g) = width g := width_mk _ (grid_len hg).1
theorem cell_flip {g : List ByteArray} (_hg : gridB g = true) {r c : Nat} (hr : r < g.length) (hc : c < width g) : cellAt (gFlip g) r c = ex (cellAt g r (width g - 1 - c)) := cell_mk _ hr hc
theorem other_len {g : List ByteArray} : (gOther g).length = g.length := mkG_length _ _ _
theorem other_width {g : List ByteArray} (hg : gridB g = true) : width (gOther g) = width g := width_mk _ (grid_len hg).1
theorem cell_other {g : List ByteArray} (_hg : gridB g = true) {r c : Nat} (hr : r < g.length) (hc : c < width g) : cellAt (gOther g) r c = ex (cellAt g r c) := cell_mk _ hr hc
theorem grid_eq {g h : List ByteArray} (hg : gridB g = true) (hh : gridB h = true) (hl : g.length = h.length) (hw : width g = width h) (hc : ∀ r c, r < g.length → c < width g → cellAt g r c = cellAt h r c) : g = h := by
  rw [← grid_self hg, ← grid_self hh, ← hl, ← hw]
  exact mkG_ext hc
theorem flip_flip {g : List ByteArray} (hg : gridB g = true) : gFlip (gFlip g) = g := by
  have h1 := grid_flip hg
  refine grid_eq (grid_flip h1) hg (by rw [flip_len, flip_len]) (by rw [flip_width h1, flip_width hg]) fun r c hr hc => ?_
  rw [flip_len, flip_len] at hr
  rw [flip_width h1, flip_width hg] at hc
  rw [cell_flip h1 (by rw [flip_len]; exact hr) (by rw [flip_width hg]; exact hc), flip_width hg, cell_flip hg hr (by omega), ex_ex]
  congr 1; omega
theorem other_other {g : List ByteArray} (hg : gridB g = true) : gOther (gOther g) = g := by
  have h1 := grid_other hg
  refine grid_eq (grid_other h1) hg (by rw [other_len, other_len]) (by rw [other_width h1, other_width hg]) fun r c hr hc => ?_
  rw [other_len, other_len] at hr
  rw [other_width h1, other_width hg] at hc
  rw [cell_other h1 (by rw [other_len]; exact hr) (by rw [other_width hg]; exact hc), cell_other hg hr hc, ex_ex]
theorem turn_turn {g : List ByteArray} (hg : gridB g = true) {r c : Nat} (hr : r < g.length) (hc : c < width g) : cellAt (gTurn (gTurn g)) r c = cellAt g (g.length - 1 - r) (width g - 1 - c) := by
  have h1 := grid_turn hg
  rw [cell_turn h1 (by rw [turn_width hg]; exact hr) (by rw [turn_len]; exact hc), turn_len, cell_turn hg (by omega) hr, ex_ex]
theorem turn4 {g : List ByteArray} (hg : gridB g = true) : gTurn (gTurn (gTurn (gTurn g))) = g := by
  have h1 := grid_turn hg
  have h2 := grid_turn h1
  have h3 := grid_turn h2
  have e1 : (gTurn (gTurn g)).length = g.length := by rw [turn_len, turn_width hg]
  have e2 : width (gTurn (gTurn g)) = width g := by rw [turn_width h1, turn_len]
  have e3 : (gTurn (gTurn (gTurn (gTurn g)))).length = g.length := by rw [turn_len, turn_width h2, e1]
  have e4 : width (gTurn (gTurn (gTurn (gTurn g)))) = width g := by rw [turn_width h3, turn_len, e2]
  refine grid_eq (grid_turn h3) hg e3 e4 fun r c hr hc => ?_
  rw [e3] at hr
  rw [e4] at hc
  rw [turn_turn h2 (by rw [e1]; exact hr) (by rw [e2]; exact hc), e1, e2, turn_turn hg (r := g.length - 1 - r) (c := width g - 1 - c) (by omega) (by omega)]
  have a1 : g.length - 1 - (g.length - 1 - r) = r := by omega
  have a2 : width g - 1 - (width g - 1 - c) = c := by omega
  rw [a1, a2]
theorem turn_flip {g : List ByteArray} (hg : gridB g = true) : gTurn (gFlip (gTurn g)) = gFlip g := by
  have h1 := grid_turn hg
  have h2 := grid_flip h1
  have e1 : (gFlip (gTurn g)).length = width g := by rw [flip_len, turn_len]
  have e2 : width (gFlip (gTurn g)) = g.length := by rw [flip_width h1, turn_width hg]
  refine grid_eq (grid_turn h2) (grid_flip hg) (by rw [turn_len, e2, flip_len]) (by rw [turn_width h2, e1, flip_width hg]) fun r c hr hc => ?_
  rw [turn_len, e2] at hr
  rw [turn_width h2, e1] at hc
  rw [cell_turn h2 (by rw [e2]; exact hr) (by rw [e1]; exact hc), e1, cell_flip h1 (by rw [turn_len]; omega) (by rw [turn_width hg]; exact hr), turn_width hg, cell_turn hg (by omega) (by omega), cell_flip hg hr hc, ex_ex]
  congr 2; omega
theorem turn_other {g : List ByteArray} (hg : gridB g = true) : gOther (gTurn g) = gTurn (gOther g) := by
  have h1 := grid_turn hg
  have h2 := grid_other hg
  refine grid_eq (grid_other h1) (grid_turn h2) (by rw [other_len, turn_len, turn_len, other_width hg]) (by rw [other_width h1, turn_width hg, turn_width h2, other_len]) fun r c hr hc => ?_
  rw [other_len, turn_len] at hr
  rw [other_width h1, turn_width hg] at hc
  rw [cell_other h1 (by rw [turn_len]; exact hr) (by rw [turn_width hg]; exact hc), cell_turn hg hr hc, cell_turn h2 (by rw [other_width hg]; exact hr) (by rw [other_len]; exact hc), other_len, cell_other hg (by omega) hr]
end Go.Proofs.Ythjllnabjnjpmaa
