/-
  PLAIN LAWS OF BEAMS: lengths, turns, cells gone through twice, first mirrors, cells met, the longest one.
-/
import Derived.Test.YtfiaidphcecnhaaBJ
import Derived.Test.YtfiaidphcecnhaaYB
namespace Go.Proofs.Ytfiaidphcecnhaa
open Go.RowKit

theorem int_bne_no' {a b : Nat} (h : a = b) : ((a : Int) != (b : Int)) = false := by rw [h]; simp
/-- beams lead back -/
theorem endA_back {g : List ByteArray} {p : Int} (h : givenB g p = true) : givenB g (endA g p : Nat) = true ∧ (endA g (endA g p : Nat) : Int) = p ∧ (endA g p : Int) ≠ p ∧ wayA g (endA g p : Nat) = (wayA g p).reverse := by
  obtain ⟨k, rfl, hk, hg⟩ := given_nat h
  obtain ⟨he, _⟩ := ends_B hg hk
  have hkp : k < (fld g).ports := by rw [ports_fld]; exact hk
  obtain ⟨h1, h2, h3⟩ := Fd.ends_back (grid_hn hg) (grid_hm hg) hkp he
  have hne := Fd.end_ne (grid_hn hg) (grid_hm hg) hkp he
  rw [endA_yes h]
  have hq : endB (fld g) k < portsN g := by rw [← ports_fld]; exact h1
  have hgv : givenB g (endB (fld g) k : Nat) = true := givenB_iff.2 ⟨hg, by omega, by omega⟩
  obtain ⟨he2, _⟩ := ends_B hg hq
  obtain ⟨e1, e2⟩ := Fd.ends_det he2 h3
  refine ⟨hgv, ?_, by omega, ?_⟩
  · rw [endA_yes hgv, e2]
  · rw [wayA_yes hgv, wayA_yes h, e1]
    exact Fd.way_back (grid_hn hg) (grid_hm hg) hkp he
theorem lenA_back {g : List ByteArray} {p : Int} (h : givenB g p = true) : lenA g (endA g p : Nat) = lenA g p := by
  unfold lenA; rw [(endA_back h).2.2.2, List.length_reverse]
theorem turnsA_back {g : List ByteArray} {p : Int} (h : givenB g p = true) : turnsA g (endA g p : Nat) = turnsA g p := by
  unfold turnsA; rw [(endA_back h).2.2.2, Fd.mirrorsOn_reverse]
theorem twiceA_back {g : List ByteArray} {p : Int} (h : givenB g p = true) : twiceA g (endA g p : Nat) = twiceA g p := by
  unfold twiceA; rw [(endA_back h).2.2.2]
  exact cntB_ext _ fun x _ => by rw [often_reverse]
theorem lenA_pos {g : List ByteArray} {p : Int} (h : givenB g p = true) : 1 ≤ lenA g p := by
  obtain ⟨k, rfl, hk, hg⟩ := given_nat h
  unfold lenA
  rw [wayA_yes h, Fd.way_length]; omega
theorem lenA_two {g : List ByteArray} {p : Int} (h : givenB g p = true) : lenA g p ≤ 2 * cellsN g := by
  obtain ⟨k, rfl, hk, hg⟩ := given_nat h
  obtain ⟨he, _⟩ := ends_B hg hk
  unfold lenA
  rw [wayA_yes h, Fd.way_length]
  exact Fd.beam_len (grid_hn hg) (grid_hm hg) (by rw [ports_fld]; exact hk) he
theorem turnsA_le (g : List ByteArray) (p : Int) : turnsA g p ≤ lenA g p := Fd.mirrorsOn_le _
theorem turnsA_even {g : List ByteArray} {k : Nat} (h : givenB g (k : Nat) = true) : (turnsA g (k : Nat) % 2 == 0) = ((fld g).rowP k == (fld g).rowP (endA g (k : Nat))) := by
  obtain ⟨j, hj, hk, hg⟩ := given_nat h
  have : j = k := by omega
  subst this
  obtain ⟨he, _⟩ := ends_B hg hk
  have := Fd.turns_even (grid_hn hg) (grid_hm hg) (fld_letters hg) (by rw [ports_fld]; exact hk) he
  unfold turnsA
  rw [wayA_yes h, endA_yes h]
  exact this
theorem twiceA_le {g : List ByteArray} (p : Int) : 2 * twiceA g p ≤ lenA g p := twice_len (cellsN g) (wayA g p) fun _ hx => (way_mem hx).2
theorem twiceA_short {g : List ByteArray} {p : Int} (h : lenA g p ≤ 3) : twiceA g p = 0 := by
  cases hb : givenB g p
  · exact twiceA_no hb
  · obtain ⟨k, rfl, hk, hg⟩ := given_nat hb
    obtain ⟨he, _⟩ := ends_B hg hk
    unfold lenA at h
    unfold twiceA
    rw [wayA_yes hb] at h ⊢
    rw [Fd.way_length] at h
    exact Fd.twice_long (grid_hn hg) (grid_hm hg) (by rw [ports_fld]; exact hk) he h _
theorem twiceA_plain {g : List ByteArray} {p : Int} (h : turnsA g p = 0) : twiceA g p = 0 := by
  cases hb : givenB g p
  · exact twiceA_no hb
  · obtain ⟨k, rfl, hk, hg⟩ := given_nat hb
    obtain ⟨he, _⟩ := ends_B hg hk
    unfold turnsA at h
    unfold twiceA
    rw [wayA_yes hb] at h ⊢
    exact Fd.straight_beam (grid_hn hg) (grid_hm hg) (by rw [ports_fld]; exact hk) he h _
theorem firstB_turns (g : List ByteArray) (p : Int) : firstB g p = decide (0 < turnsA g p) := by
  unfold firstB firstO turnsA Fd.mirrorsOn
  rw [Bool.eq_iff_iff, decide_eq_true_iff, List.find?_isSome, List.length_pos_iff_exists_mem]
  constructor
  · rintro ⟨x, hx, h⟩; exact ⟨x, List.mem_filter.2 ⟨hx, h⟩⟩
  · rintro ⟨x, hx⟩; exact ⟨x, (List.mem_filter.1 hx).1, (List.mem_filter.1 hx).2⟩
/-! ### full grids, empty grids -/
theorem at_cellAt (g : List ByteArray) (x : Nat) : (fld g).at_ x = cellAt g (x / width g) (x % width g) := rfl
theorem cell_rc {g : List ByteArray} (hg : gridB g = true) {x : Nat} (hx : x < cellsN g) : x / width g < g.length ∧ x % width g < width g := by
  have hw := (grid_width hg).1
  exact ⟨by rw [Nat.div_lt_iff_lt_mul (by omega)]; exact hx, Nat.mod_lt _ (by omega)⟩
theorem turnsA_full {g : List ByteArray} {p : Int} (hf : fullB g = true) : turnsA g p = lenA g p := by
  unfold turnsA lenA Fd.mirrorsOn
  rw [List.filter_eq_self.2]
  intro x hx
  obtain ⟨hg, hxc⟩ := way_mem hx
  obtain ⟨h1, h2⟩ := cell_rc hg hxc
  have := (full_cell hg).1 hf _ _ h1 h2
  rw [at_cellAt]; simpa using this
theorem sumB_zero_all {M : Nat} {f : Nat → Nat} (h : sumB M f = 0) : ∀ k, k < M → f k = 0 := by
  induction M with
  | zero => intro k hk; omega
  | succ M ih =>
    rw [sumB_succ] at h
    intro k hk
    by_cases e : k = M
    · subst e; omega
    · exact ih (by omega) k (by omega)
theorem turnsA_none {g : List ByteArray} {p : Int} (hm : mirrors g = 0) : turnsA g p = 0 := by
  unfold turnsA Fd.mirrorsOn
  rw [List.filter_eq_nil_iff.2]; rfl
  intro x hx
  obtain ⟨hg, hxc⟩ := way_mem hx
  obtain ⟨h1, h2⟩ := cell_rc hg hxc
  rw [mirrors_sum hg] at hm
  have := sumB_zero_all (sumB_zero_all hm _ h1) _ h2
  rw [at_cellAt]
  intro hne
  rw [if_pos hne] at this
  cases this
/-! ### cells met -/
theorem both_comm (a b : List Nat) (c : Nat) : bothB a b c = bothB b a c := Bool.and_comm _ _
theorem meetsB_iff {g : List ByteArray} {p q : Int} : meetsB g p q = true ↔ givenB g p = true ∧ givenB g q = true ∧ p ≠ q ∧ (endA g p : Int) ≠ q := by
  unfold meetsB
  simp only [Bool.and_eq_true, Bool.not_eq_true', beq_eq_false_iff_ne, ne_eq, and_assoc]
theorem meetsA_yes {g : List ByteArray} {p q : Int} (h : meetsB g p q = true) : meetsA g p q = cntB (cellsN g) (bothB (wayA g p) (wayA g q)) := by unfold meetsA; rw [h]; rfl
theorem meets_swap {g : List ByteArray} {p q : Int} (h : meetsB g p q = true) : meetsB g q p = true ∧ meetsA g q p = meetsA g p q := by
  obtain ⟨h1, h2, h3, h4⟩ := meetsB_iff.1 h
  obtain ⟨_, e2, _, _⟩ := endA_back h2
  have hB : meetsB g q p = true := meetsB_iff.2 ⟨h2, h1, fun e => h3 e.symm, fun e => h4 (by
    rw [← e] at h1 ⊢
    exact e2)⟩
  refine ⟨hB, ?_⟩
  rw [meetsA_yes hB, meetsA_yes h]
  exact cntB_ext _ fun x _ => both_comm _ _ x
theorem meets_ends {g : List ByteArray} {p q : Int} (h : meetsB g p q = true) : meetsB g (endA g p : Nat) (endA g q : Nat) = true ∧ meetsA g (endA g p : Nat) (endA g q : Nat) = meetsA g p q := by
  obtain ⟨h1, h2, h3, h4⟩ := meetsB_iff.1 h
  obtain ⟨a1, a2, a3, a4⟩ := endA_back h1
  obtain ⟨b1, b2, b3, b4⟩ := endA_back h2
  have hB : meetsB g (endA g p : Nat) (endA g q : Nat) = true := meetsB_iff.2 ⟨a1, b1, fun e => h3 (by rw [← a2, ← b2, e]), fun e => h4 (by
    have e1 : p = (endA g q : Int) := by rw [← a2]; exact e
    rw [e1]; exact b2)⟩
  refine ⟨hB, ?_⟩
  rw [meetsA_yes hB, meetsA_yes h, a4, b4]
  exact cntB_ext _ fun x _ => by unfold bothB; rw [often_reverse, often_reverse]
theorem cnt_some_le (M : Nat) (l : List Nat) (h : ∀ x ∈ l, x < M) : (cntB M fun c => decide (0 < often l c)) ≤ l.length := by
  rw [length_often M l h, cntB_sum]
  refine sumB_le M fun x _ => ?_
  by_cases e : 0 < often l x
  · rw [if_pos (by simpa using e)]; exact e
  · rw [if_neg (by simpa using e)]; exact Nat.zero_le _
theorem meets_le (g : List ByteArray) (p q : Int) : meetsA g p q ≤ lenA g p ∧ meetsA g p q ≤ lenA g q := by
  cases h : meetsB g p q
  · rw [meetsA_no h]; exact ⟨Nat.zero_le _, Nat.zero_le _⟩
  · rw [meetsA_yes h]
    refine ⟨Nat.le_trans (cntB_mono _ fun x _ hb => ?_) (cnt_some_le (cellsN g) (wayA g p) fun x hx => (way_mem hx).2), Nat.le_trans (cntB_mono _ fun x _ hb => ?_) (cnt_some_le (cellsN g) (wayA g q) fun x hx => (way_mem hx).2)⟩
    · unfold bothB at hb; rw [Bool.and_eq_true] at hb; exact hb.1
    · unfold bothB at hb; rw [Bool.and_eq_true] at hb; exact hb.2
/-! ### the longest one -/
theorem bestL_all (g : List ByteArray) : ∀ k, (∀ j, j < k → 1 ≤ lenA g (j : Nat)) → (∀ j, j < k → lenA g (j : Nat) ≤ (bestL g k).2) ∧ (0 < k → (bestL g k).1 < k ∧ lenA g ((bestL g k).1 : Nat) = (bestL g k).2 ∧ ∀ j, j < (bestL g k).1 → lenA g (j : Nat) < (bestL g k).2)
  | 0, _ => ⟨fun j hj => by omega, fun h => by omega⟩
  | k + 1, hpos => by
    obtain ⟨h1, h2⟩ := bestL_all g k fun j hj => hpos j (by omega)
    have hS : bestL g (k + 1) = if (bestL g k).2 < lenA g (k : Nat) then (k, lenA g (k : Nat)) else bestL g k := rfl
    by_cases hc : (bestL g k).2 < lenA g (k : Nat)
    · rw [hS, if_pos hc]
      refine ⟨fun j hj => ?_, fun _ => ⟨Nat.lt_succ_self _, rfl, fun j hj => ?_⟩⟩
      · by_cases e : j = k
        · subst e; exact Nat.le_refl _
        · exact Nat.le_of_lt (Nat.lt_of_le_of_lt (h1 j (by omega)) hc)
      · exact Nat.lt_of_le_of_lt (h1 j hj) hc
    · rw [hS, if_neg hc]
      refine ⟨fun j hj => ?_, fun _ => ?_⟩
      · by_cases e : j = k
        · subst e; omega
        · exact h1 j (by omega)
      · have hk : 0 < k := by
          apply Classical.byContradiction
          intro h0
          have : k = 0 := by omega
          subst this
          have := hpos 0 (by omega)
          exact hc (by show 0 < _; exact this)
        obtain ⟨a1, a2, a3⟩ := h2 hk
        exact ⟨by omega, a2, a3⟩
theorem best_law {g : List ByteArray} (hg : gridB g = true) {i : Nat} (hi : i < portsN g) :
    givenB g (i : Nat) = true ∧ lenA g (i : Nat) ≤ bestN g ∧ (i < bestP g → lenA g (i : Nat) ≠ bestN g) ∧ (i = bestP g → lenA g (i : Nat) = bestN g) := by
  have hgv : ∀ j, j < portsN g → givenB g (j : Nat) = true := fun j hj => givenB_iff.2 ⟨hg, by omega, by omega⟩
  have e1 : bestP g = (bestL g (portsN g)).1 := by unfold bestP; rw [hg]; rfl
  have e2 : bestN g = (bestL g (portsN g)).2 := by unfold bestN; rw [hg]; rfl
  obtain ⟨h1, h2⟩ := bestL_all g (portsN g) fun j hj => lenA_pos (hgv j hj)
  obtain ⟨a1, a2, a3⟩ := h2 (by omega)
  rw [e1, e2]
  refine ⟨hgv i hi, h1 i hi, fun h => ?_, fun h => by rw [h]; exact a2⟩
  have := a3 i h
  omega
end Go.Proofs.Ytfiaidphcecnhaa
