/-
  PLAIN LAWS OF GRIDS: parts, grids beside and below each other, cells put, numbers.
-/
import Derived.Test.YthjllnabjnjpmaaY
import Derived.Test.YthjllnabjnjpmaaR
import Derived.Test.YthjllnabjnjpmaaK
import Derived.Test.YthjllnabjnjpmaaPD
namespace Go.Proofs.Ythjllnabjnjpmaa
set_option maxRecDepth 100000
open Go.RowKit

theorem ext_list (s : ByteArray) (a b : Nat) : (s.extract a b).toList = (s.toList.drop a).take (b - a) := by
  rw [ByteArray.toList_eq, ByteArray.toList_eq, ByteArray.data_extract, Array.toList_extract, List.extract_eq_take_drop]
theorem app_list (s t : ByteArray) : (s ++ t).toList = s.toList ++ t.toList := by
  rw [ByteArray.toList_eq, ByteArray.toList_eq, ByteArray.toList_eq, ByteArray.data_append, Array.toList_append]
theorem getD_map_ext (g : List ByteArray) (a b r : Nat) : (g.map fun s => s.extract a b).getD r ⟨#[]⟩ = (g.getD r ⟨#[]⟩).extract a b := by
  rw [List.getD_eq_getElem?_getD, List.getD_eq_getElem?_getD, List.getElem?_map]
  cases g[r]? with
  | some s => rfl
  | none =>
    show (⟨#[]⟩ : ByteArray) = ByteArray.extract ⟨#[]⟩ a b
    apply toList_inj
    rw [ext_list]; simp [ByteArray.toList_eq]
theorem cell_part {g : List ByteArray} {t l a b r c : Nat} (h1 : r < l + 1 - t) (h2 : c < b + 1 - a) : cellAt (gPart g t l a b) r c = cellAt g (t + r) (a + c) := by
  unfold cellAt gPart
  rw [getD_map_ext, ext_list]
  rw [List.getD_eq_getElem?_getD, List.getElem?_take, if_pos h2, List.getElem?_drop, List.getD_eq_getElem?_getD, List.getElem?_take, if_pos h1, List.getElem?_drop, ← List.getD_eq_getElem?_getD, ← List.getD_eq_getElem?_getD]
theorem row_of {g : List ByteArray} {k : Nat} (hk : k < g.length) (s : ByteArray) (e : g[k] = s) {j : Nat} (hj : j < s.size) : s[j] = cellAt g k j := by
  subst e
  exact (cellAt_eq hk hj).symm
/-- rows of one width, of letters, are a grid -/
theorem grid_of {g : List ByteArray} {m : Nat} (h1 : 1 ≤ g.length ∧ g.length ≤ 5) (h2 : 1 ≤ m ∧ m ≤ 5) (h3 : ∀ k (hk : k < g.length), g[k].size = m) (h4 : ∀ r c, r < g.length → c < m → letterB (cellAt g r c) = true) : gridB g = true ∧ width g = m := by
  have hw : width g = m := by rw [width_eq (by omega), h3 0 (by omega)]
  refine ⟨gridB_iff.2 ⟨h1, by rw [hw]; exact h2, fun k hk => rowB_iff.2 ⟨by rw [hw]; exact h3 k hk, fun j hj => ?_⟩⟩, hw⟩
  rw [← cellAt_eq hk hj]
  exact h4 k j hk (by rw [← h3 k hk]; exact hj)
theorem grid_part {g : List ByteArray} {t l a b : Nat} (hg : gridB g = true) (h1 : t ≤ l) (h2 : l < g.length) (h3 : a ≤ b) (h4 : b < width g) :
    (gPart g t l a b).length = l + 1 - t ∧ gridB (gPart g t l a b) = true ∧ width (gPart g t l a b) = b + 1 - a := by
  have hl := gPart_length (a := a) (b := b) h1 h2
  have k1 := grid_len hg
  have k2 := grid_width hg
  have h := grid_of (g := gPart g t l a b) (m := b + 1 - a) (by omega) (by omega) (fun k hk => by
      have e : (gPart g t l a b)[k] = (g[t + k]'(by omega)).extract a (b + 1) := by simp [gPart]
      rw [e, ByteArray.size_extract, grid_row hg]; omega)
    (fun r c hr hc => by rw [cell_part (by omega) (by omega)]; exact cell_letter hg (by omega) (by omega))
  exact ⟨hl, h⟩
theorem part_all {g : List ByteArray} (hg : gridB g = true) : gPart g 0 (g.length - 1) 0 (width g - 1) = g := by
  have k1 := grid_len hg
  have k2 := grid_width hg
  obtain ⟨h1, h2, h3⟩ := grid_part (t := 0) (l := g.length - 1) (a := 0) (b := width g - 1) hg (Nat.zero_le _) (by omega) (Nat.zero_le _) (by omega)
  refine grid_eq h2 hg (by omega) (by omega) fun r c hr hc => ?_
  rw [cell_part (by omega) (by omega), Nat.zero_add, Nat.zero_add]
/-! ### beside, below -/
theorem cell_beside {g h : List ByteArray} (hg : gridB g = true) (hl : g.length = h.length) {r c : Nat} (hr : r < g.length) : cellAt (gBeside g h) r c = if c < width g then cellAt g r c else cellAt h r (c - width g) := by
  have e : (gBeside g h).getD r ⟨#[]⟩ = g[r] ++ h[r] := by
    rw [List.getD_eq_getElem?_getD, List.getElem?_eq_getElem (by rw [gBeside_length hl]; exact hr)]
    simp [gBeside]
  have e1 : g.getD r ⟨#[]⟩ = g[r] := by rw [List.getD_eq_getElem?_getD, List.getElem?_eq_getElem hr]; rfl
  have e2 : h.getD r ⟨#[]⟩ = h[r] := by rw [List.getD_eq_getElem?_getD, List.getElem?_eq_getElem (by omega)]; rfl
  have hz : g[r].toList.length = width g := by rw [toList_length, grid_row hg]
  unfold cellAt
  rw [e, e1, e2, app_list]
  by_cases hc : c < width g
  · rw [if_pos hc, List.getD_eq_getElem?_getD, List.getElem?_append_left (by omega), List.getD_eq_getElem?_getD]
  · rw [if_neg hc, List.getD_eq_getElem?_getD, List.getElem?_append_right (by omega), hz, List.getD_eq_getElem?_getD]
theorem beside_row {g h : List ByteArray} (hg : gridB g = true) (hh : gridB h = true) (hl : g.length = h.length) (k : Nat) (hk : k < (gBeside g h).length) : (gBeside g h)[k].size = width g + width h := by
  have hk' := hk
  rw [gBeside_length hl] at hk'
  have e : (gBeside g h)[k] = g[k] ++ (h[k]'(by omega)) := by simp [gBeside]
  rw [e, ByteArray.size_append, grid_row hg, grid_row hh]
theorem beside_width {g h : List ByteArray} (hg : gridB g = true) (hh : gridB h = true) (hl : g.length = h.length) : width (gBeside g h) = width g + width h := by
  have := grid_len hg
  rw [width_eq (by rw [gBeside_length hl]; omega), beside_row hg hh hl 0 (by rw [gBeside_length hl]; omega)]
theorem beside_left {g h : List ByteArray} (hg : gridB g = true) (hh : gridB h = true) (hl : g.length = h.length) (ho : gridB (gBeside g h) = true) : gPart (gBeside g h) 0 (g.length - 1) 0 (width g - 1) = g := by
  have k1 := grid_len hg
  have k2 := grid_width hg
  have k3 := beside_width hg hh hl
  obtain ⟨h1, h2, h3⟩ := grid_part (t := 0) (l := g.length - 1) (a := 0) (b := width g - 1) ho (Nat.zero_le _) (by rw [gBeside_length hl]; omega) (Nat.zero_le _) (by omega)
  refine grid_eq h2 hg (by omega) (by omega) fun r c hr hc => ?_
  rw [cell_part (by omega) (by omega), Nat.zero_add, Nat.zero_add, cell_beside hg hl (by omega), if_pos (by omega)]
theorem beside_right {g h : List ByteArray} (hg : gridB g = true) (hh : gridB h = true) (hl : g.length = h.length) (ho : gridB (gBeside g h) = true) : gPart (gBeside g h) 0 (g.length - 1) (width g) (width g + width h - 1) = h := by
  have k1 := grid_len hg
  have k2 := grid_width hg
  have k4 := grid_width hh
  have k3 := beside_width hg hh hl
  obtain ⟨h1, h2, h3⟩ := grid_part (t := 0) (l := g.length - 1) (a := width g) (b := width g + width h - 1) ho (Nat.zero_le _) (by rw [gBeside_length hl]; omega) (by omega) (by omega)
  refine grid_eq h2 hh (by omega) (by omega) fun r c hr hc => ?_
  rw [cell_part (by omega) (by omega), Nat.zero_add, cell_beside hg hl (by omega), if_neg (by omega)]
  congr 1; omega
theorem cell_append (g h : List ByteArray) (r c : Nat) : cellAt (g ++ h) r c = if r < g.length then cellAt g r c else cellAt h (r - g.length) c := by
  unfold cellAt
  by_cases hr : r < g.length
  · have e : (g ++ h).getD r ⟨#[]⟩ = g.getD r ⟨#[]⟩ := by rw [List.getD_eq_getElem?_getD, List.getElem?_append_left hr, ← List.getD_eq_getElem?_getD]
    rw [if_pos hr, e]
  · have e : (g ++ h).getD r ⟨#[]⟩ = h.getD (r - g.length) ⟨#[]⟩ := by rw [List.getD_eq_getElem?_getD, List.getElem?_append_right (by omega), ← List.getD_eq_getElem?_getD]
    rw [if_neg hr, e]
theorem append_width {g h : List ByteArray} (hg : gridB g = true) : width (g ++ h) = width g := by
  have := grid_len hg
  unfold width
  rw [List.getD_eq_getElem?_getD, List.getElem?_append_left (by omega), ← List.getD_eq_getElem?_getD]
theorem append_wide {g h : List ByteArray} (hg : gridB g = true) (hh : gridB h = true) (ho : gridB (g ++ h) = true) : width h = width g := by
  have h1 := grid_len hh
  have h2 := grid_row ho g.length (by rw [List.length_append]; omega)
  rw [List.getElem_append_right (Nat.le_refl _)] at h2
  simp only [Nat.sub_self] at h2
  rw [grid_row hh 0 (by omega), append_width hg] at h2
  exact h2
theorem under_turn {g h : List ByteArray} (hg : gridB g = true) (hh : gridB h = true) (ho : gridB (g ++ h) = true) : gridB (gBeside (gTurn h) (gTurn g)) = true ∧ (gTurn h).length = (gTurn g).length ∧ gBeside (gTurn h) (gTurn g) = gTurn (g ++ h) := by
  have h1 := grid_turn hg
  have h2 := grid_turn hh
  have h3 := grid_turn ho
  have hw := append_wide hg hh ho
  have hwo := append_width (h := h) hg
  have hlo : (g ++ h).length = g.length + h.length := List.length_append
  have hl : (gTurn h).length = (gTurn g).length := by rw [turn_len, turn_len, hw]
  have ko := grid_len ho
  have kg := grid_len hg
  have kh := grid_len hh
  have kw := grid_width hg
  have hbl : (gBeside (gTurn h) (gTurn g)).length = width g := by rw [gBeside_length hl, turn_len, hw]
  have hbw := beside_width h2 h1 hl
  rw [turn_width hh, turn_width hg] at hbw
  have hcell : ∀ r c, r < width g → c < h.length + g.length → cellAt (gBeside (gTurn h) (gTurn g)) r c = cellAt (gTurn (g ++ h)) r c := fun r c hr hc => by
    rw [cell_beside h2 hl (by rw [turn_len, hw]; exact hr), turn_width hh, cell_turn ho (by rw [hwo]; exact hr) (by omega), cell_append, hlo]
    by_cases hch : c < h.length
    · rw [if_pos hch, if_neg (by omega), cell_turn hh (by rw [hw]; exact hr) hch]
      congr 2; omega
    · rw [if_neg hch, if_pos (by omega), cell_turn hg hr (by omega)]
      congr 2; omega
  have hgr := grid_of (g := gBeside (gTurn h) (gTurn g)) (m := h.length + g.length) (by omega) (by omega) (fun k hk => by rw [beside_row h2 h1 hl k hk, turn_width hh, turn_width hg])
    (fun r c hr hc => by rw [hcell r c (by omega) hc]; exact cell_letter h3 (by rw [turn_len, hwo]; omega) (by rw [turn_width ho, hlo]; omega))
  refine ⟨hgr.1, hl, grid_eq hgr.1 h3 (by rw [hbl, turn_len, hwo]) (by rw [hbw, turn_width ho, hlo]; omega) fun r c hr hc => hcell r c (by omega) (by omega)⟩
/-! ### numbers -/
theorem numL_digit : ∀ (L : List UInt8) (k : Nat) (hk : k < L.length), qt (numL L) k % 3 = dg L[k]
  | b :: L, 0, _ => by
    have := dg_le b
    rw [qt_zero, numL, List.getElem_cons_zero]; omega
  | b :: L, k + 1, hk => by
    have h1 := dg_le b
    have ih := numL_digit L k (by simpa using hk)
    have e : qt (numL (b :: L)) (k + 1) = qt (numL L) k := by
      unfold qt
      rw [numL, pw3_succ, Nat.mul_comm (pw3 k) 3, ← Nat.div_div_eq_div_mul]
      congr 1; omega
    rw [e, ih, List.getElem_cons_succ]
theorem numL_of : ∀ (L : List UInt8) (N : Nat), (∀ k (hk : k < L.length), dg L[k] = qt N k % 3) → numL L = N % pw3 L.length
  | [], N, _ => by rw [numL, List.length_nil, pw3_zero]; omega
  | b :: L, N, h => by
    have h0 := h 0 (by simp)
    rw [List.getElem_cons_zero, qt_zero] at h0
    have ih := numL_of L (N / 3) fun k hk => by
      have := h (k + 1) (by simpa using hk)
      rw [List.getElem_cons_succ] at this
      rw [this]
      unfold qt
      rw [pw3_succ, Nat.mul_comm (pw3 k) 3, ← Nat.div_div_eq_div_mul]
    rw [numL, ih, h0, List.length_cons, pw3_succ, Nat.mul_comm (pw3 L.length) 3, Nat.mod_mul]
theorem dig3_letter (k : Nat) : letterB (dig3 k) = true := by
  unfold dig3
  split
  · rfl
  · split <;> rfl
theorem dg_dig3 (k : Nat) : dg (dig3 k) = k % 3 := by
  unfold dig3
  have h3 : k % 3 < 3 := Nat.mod_lt _ (by decide)
  by_cases h0 : k % 3 = 0
  · rw [if_pos h0, h0]; rfl
  · by_cases h1 : k % 3 = 1
    · rw [if_neg h0, if_pos h1, h1]; rfl
    · rw [if_neg h0, if_neg h1, show k % 3 = 2 by omega]; rfl
theorem dig3_dg {b : UInt8} (hb : letterB b = true) {k : Nat} (h : k % 3 = dg b) : dig3 k = b := by
  unfold letterB at hb
  simp only [Bool.or_eq_true, beq_iff_eq] at hb
  unfold dig3
  rcases hb with (rfl | rfl) | rfl
  · rw [show dg 46 = 0 from rfl] at h; rw [if_pos h]
  · rw [show dg 114 = 1 from rfl] at h; rw [if_neg (by omega), if_pos h]
  · rw [show dg 102 = 2 from rfl] at h; rw [if_neg (by omega), if_neg (by omega)]
theorem fl_cell {g : List ByteArray} (hg : gridB g = true) {r c : Nat} (hr : r < g.length) (hc : c < width g) : (fl g)[r * width g + c]? = some (cellAt g r c) := by
  have hm := (grid_width hg).1
  have hq : r * width g + c < g.length * width g := by
    have h := Nat.mul_le_mul_right (width g) (show r + 1 ≤ g.length from hr)
    rw [Nat.succ_mul] at h; omega
  have e1 : (r * width g + c) / width g = r := by rw [Nat.mul_comm, Nat.mul_add_div (by omega), Nat.div_eq_of_lt hc]; omega
  have e2 : (r * width g + c) % width g = c := by rw [Nat.mul_comm, Nat.mul_add_mod, Nat.mod_eq_of_lt hc]
  obtain ⟨h1, h2, h3⟩ := fl_get (width g) (by omega) (grid_mem hg) _ hq
  rw [h3]
  simp only [e1, e2]
  rw [cellAt_eq hr (by rw [grid_row hg]; exact hc)]
theorem fl_len {g : List ByteArray} (hg : gridB g = true) : (fl g).length = cellsN g := fl_length _ (grid_mem hg)
theorem of_number {g : List ByteArray} (hg : gridB g = true) : gOf g.length (width g) (numG g) = g := by
  conv => rhs; rw [← grid_self hg]
  unfold gOf
  refine mkG_ext fun r c hr hc => ?_
  have h1 := fl_cell hg hr hc
  obtain ⟨hlt, h2⟩ := List.getElem?_eq_some_iff.1 h1
  exact dig3_dg (cell_letter hg hr hc) (by unfold numG; rw [numL_digit _ _ hlt, h2])
theorem number_fits {g : List ByteArray} (hg : gridB g = true) : numG g < pw3 (g.length * width g) := by
  have := numL_lt (fl g)
  rw [fl_len hg] at this
  exact this
theorem grid_gOf {n m N : Nat} (hn : 1 ≤ n ∧ n ≤ 5) (hm : 1 ≤ m ∧ m ≤ 5) : gridB (gOf n m N) = true ∧ (gOf n m N).length = n ∧ width (gOf n m N) = m :=
  ⟨grid_mk hn hm fun _ _ _ _ => dig3_letter _, mkG_length _ _ _, width_mk _ hn.1⟩
theorem number_of {n m N : Nat} (hn : 1 ≤ n ∧ n ≤ 5) (hm : 1 ≤ m ∧ m ≤ 5) (hN : N < pw3 (n * m)) : numG (gOf n m N) = N := by
  obtain ⟨hg, hl, hw⟩ := grid_gOf (N := N) hn hm
  have hfl := fl_len hg
  unfold cellsN at hfl
  rw [hl, hw] at hfl
  unfold numG
  rw [numL_of (fl (gOf n m N)) N fun k hk => ?_, hfl, Nat.mod_eq_of_lt hN]
  have hr : k / m < n := by rw [Nat.div_lt_iff_lt_mul (by omega)]; omega
  have hc : k % m < m := Nat.mod_lt _ (by omega)
  have h1 := fl_cell hg (r := k / m) (c := k % m) (by omega) (by omega)
  rw [hw] at h1
  have hk2 : k / m * m + k % m = k := by rw [Nat.mul_comm, Nat.div_add_mod]
  rw [hk2, List.getElem?_eq_getElem hk] at h1
  injection h1 with h1
  rw [h1]
  unfold gOf
  rw [cell_mk _ hr hc, dg_dig3, hk2]
/-! ### a cell put -/
theorem grid_put {g : List ByteArray} (hg : gridB g = true) (cell : Nat) {b : UInt8} (hb : letterB b = true) : gridB (gPut g cell b) = true ∧ (gPut g cell b).length = g.length ∧ width (gPut g cell b) = width g := by
  refine ⟨grid_mk (grid_len hg) (grid_width hg) fun r c hr hc => ?_, mkG_length _ _ _, width_mk _ (grid_len hg).1⟩
  by_cases h : r * width g + c = cell
  · rw [if_pos h]; exact hb
  · rw [if_neg h]; exact cell_letter hg hr hc
theorem cell_put {g : List ByteArray} {cell : Nat} {b : UInt8} {r c : Nat} (hr : r < g.length) (hc : c < width g) : cellAt (gPut g cell b) r c = if r * width g + c = cell then b else cellAt g r c := cell_mk _ hr hc
theorem put_back {g : List ByteArray} (hg : gridB g = true) {cell : Nat} {b : UInt8} (hb : letterB b = true) (hc : cell < cellsN g) : gPut (gPut g cell b) cell (cellAt g (cell / width g) (cell % width g)) = g := by
  have hw := (grid_width hg).1
  have hr : cell / width g < g.length := by rw [Nat.div_lt_iff_lt_mul (by omega)]; exact hc
  have hcc : cell % width g < width g := Nat.mod_lt _ (by omega)
  obtain ⟨h1, h2, h3⟩ := grid_put hg cell hb
  obtain ⟨h4, h5, h6⟩ := grid_put h1 cell (cell_letter hg hr hcc)
  refine grid_eq h4 hg (by rw [h5, h2]) (by rw [h6, h3]) fun r c hr hc => ?_
  rw [h5, h2] at hr
  rw [h6, h3] at hc
  rw [cell_put (by omega) (by omega), h3, cell_put hr hc]
  by_cases h : r * width g + c = cell
  · rw [if_pos h]
    obtain ⟨e1, e2⟩ := (rc_iff hc).1 h
    rw [e1, e2]
  · rw [if_neg h, if_neg h]
/-! ### mirrors counted, turned -/
theorem sumB_swap (n m : Nat) (f : Nat → Nat → Nat) : sumB n (fun r => sumB m (fun c => f r c)) = sumB m (fun c => sumB n (fun r => f r c)) := by
  induction n with
  | zero =>
    rw [sumB_zero]
    have : sumB m (fun c => sumB 0 (fun r => f r c)) = sumB m fun _ => 0 := sumB_ext m fun c _ => sumB_zero _
    rw [this, sumB_const, Nat.zero_mul]
  | succ n ih =>
    rw [sumB_succ, ih, ← sumB_add]
    exact sumB_ext m fun c _ => (sumB_succ n _).symm
theorem sumB_first (n : Nat) (f : Nat → Nat) : sumB (n + 1) f = f 0 + sumB n fun k => f (k + 1) := by
  induction n with
  | zero => rw [sumB_succ, sumB_zero, sumB_zero]; omega
  | succ n ih => rw [sumB_succ, ih, sumB_succ]; omega
theorem sumB_rev (n : Nat) (f : Nat → Nat) : sumB n (fun k => f (n - 1 - k)) = sumB n f := by
  induction n generalizing f with
  | zero => rfl
  | succ n ih =>
    rw [sumB_succ, sumB_first]
    have : sumB n (fun k => f (n + 1 - 1 - k)) = sumB n (fun k => (fun j => f (j + 1)) (n - 1 - k)) := sumB_ext n fun k hk => by
      show f _ = f _
      congr 1; omega
    rw [this, ih fun j => f (j + 1)]
    have : n + 1 - 1 - n = 0 := by omega
    rw [this]; omega
theorem cntL_row (p : UInt8 → Bool) (m : Nat) (f : Nat → UInt8) : cntL p (rowOf m f) = sumB m fun c => if p (f c) then 1 else 0 := by
  induction m with
  | zero => rfl
  | succ m ih => rw [rowOf_succ, cntL_snoc, ih, sumB_succ]
theorem cntG_mk (p : UInt8 → Bool) (n m : Nat) (f : Nat → Nat → UInt8) : cntG p (mkG n m f) = sumB n fun r => sumB m fun c => if p (f r c) then 1 else 0 := by
  induction n with
  | zero => rfl
  | succ n ih => rw [mkG_succ, cntG_snoc, ih, sumB_succ, bs_toList, cntL_row]
theorem ex_dot (b : UInt8) : (ex b != 46) = (b != 46) := by
  unfold ex
  repeat' split
  all_goals simp_all
theorem mirrors_sum {g : List ByteArray} (hg : gridB g = true) : mirrors g = sumB g.length fun r => sumB (width g) fun c => if cellAt g r c != 46 then 1 else 0 := by
  conv => lhs; rw [← grid_self hg]
  exact cntG_mk _ _ _ _
theorem mirrors_turn {g : List ByteArray} (hg : gridB g = true) : mirrors (gTurn g) = mirrors g := by
  rw [mirrors_sum hg, sumB_swap]
  show cntG (· != 46) (mkG _ _ _) = _
  rw [cntG_mk]
  refine sumB_ext _ fun r _ => ?_
  have : sumB g.length (fun c => if (ex (cellAt g (g.length - 1 - c) r) != 46) = true then 1 else 0) = sumB g.length fun c => (fun x => if (cellAt g x r != 46) = true then 1 else 0) (g.length - 1 - c) :=
    sumB_ext _ fun c _ => by rw [ex_dot]
  rw [this, sumB_rev g.length fun x => if (cellAt g x r != 46) = true then 1 else 0]
theorem mirrors_other {g : List ByteArray} (hg : gridB g = true) : mirrors (gOther g) = mirrors g := by
  rw [mirrors_sum hg]
  show cntG (· != 46) (mkG _ _ _) = _
  rw [cntG_mk]
  exact sumB_ext _ fun r _ => sumB_ext _ fun c _ => by rw [ex_dot]
theorem cells_turn {g : List ByteArray} (hg : gridB g = true) : cellsN (gTurn g) = cellsN g := by
  unfold cellsN
  rw [turn_len, turn_width hg, Nat.mul_comm]
theorem cells_other {g : List ByteArray} (hg : gridB g = true) : cellsN (gOther g) = cellsN g := by
  unfold cellsN
  rw [other_len, other_width hg]
theorem full_turn {g : List ByteArray} (hg : gridB g = true) : fullB (gTurn g) = fullB g := by
  unfold fullB
  rw [grid_turn hg, hg, mirrors_turn hg, cells_turn hg]
theorem full_other {g : List ByteArray} (hg : gridB g = true) : fullB (gOther g) = fullB g := by
  unfold fullB
  rw [grid_other hg, hg, mirrors_other hg, cells_other hg]
theorem sumB_lt (M : Nat) (f : Nat → Nat) (k : Nat) (hk : k < M) (h : ∀ x, x < M → f x ≤ 1) (h0 : f k = 0) : sumB M f < M := by
  induction M with
  | zero => omega
  | succ M ih =>
    rw [sumB_succ]
    have h1 := h M (by omega)
    by_cases e : k = M
    · subst e
      have h2 : sumB k f ≤ sumB k fun _ => 1 := sumB_le k fun x hx => h x (by omega)
      rw [sumB_const] at h2
      omega
    · have := ih (by omega) fun x hx => h x (by omega)
      omega
theorem full_cell {g : List ByteArray} (hg : gridB g = true) : fullB g = true ↔ ∀ r c, r < g.length → c < width g → cellAt g r c ≠ 46 := by
  have hs := mirrors_sum hg
  have hin : ∀ r, r < g.length → (sumB (width g) fun c => if (cellAt g r c != 46) = true then 1 else 0) ≤ width g := fun r _ => by
    have := sumB_le (width g) (f := fun c => if (cellAt g r c != 46) = true then 1 else 0) (g := fun _ => 1) fun c _ => by split <;> omega
    rw [sumB_const] at this; omega
  unfold fullB
  rw [hg, Bool.true_and, beq_iff_eq, hs]
  unfold cellsN
  constructor
  · intro h r c hr hc e
    have h1 : (sumB (width g) fun c => if (cellAt g r c != 46) = true then 1 else 0) < width g := sumB_lt (width g) _ c hc (fun x _ => by split <;> omega) (by simp [e])
    have h2 : ∀ M, M ≤ g.length → r < M → sumB M (fun r => sumB (width g) fun c => if (cellAt g r c != 46) = true then 1 else 0) < M * width g := fun M hM hrM => by
      induction M with
      | zero => omega
      | succ M ih =>
        rw [sumB_succ, Nat.succ_mul]
        by_cases e2 : r = M
        · subst e2
          have h3 := sumB_le r (f := fun r => sumB (width g) fun c => if (cellAt g r c != 46) = true then 1 else 0) (g := fun _ => width g) fun x hx => hin x (by omega)
          rw [sumB_const, Nat.mul_comm] at h3
          omega
        · have := ih (by omega) (by omega)
          have := hin M (by omega)
          omega
    have := h2 g.length (Nat.le_refl _) hr
    omega
  · intro h
    have h1 : sumB g.length (fun r => sumB (width g) fun c => if (cellAt g r c != 46) = true then 1 else 0) = sumB g.length fun _ => width g := sumB_ext _ fun r hr => by
      have : sumB (width g) (fun c => if (cellAt g r c != 46) = true then 1 else 0) = sumB (width g) fun _ => 1 := sumB_ext _ fun c hc => by
        rw [if_pos (by simpa using h r c hr hc)]
      rw [this, sumB_const]; omega
    rw [h1, sumB_const, Nat.mul_comm]
theorem not_full_put {g : List ByteArray} (hg : gridB g = true) : fullB (gPut g 0 46) = false := by
  obtain ⟨h1, h2, h3⟩ := grid_put hg 0 (b := 46) rfl
  have k1 := grid_len hg
  have k2 := grid_width hg
  rw [← Bool.not_eq_true, full_cell h1]
  intro h
  have := h 0 0 (by omega) (by omega)
  rw [cell_put (by omega) (by omega), if_pos (by omega)] at this
  exact this rfl
end Go.Proofs.Ythjllnabjnjpmaa
