/-
  CONTRACTS: toStringS; GridIn of the program and of the reference.
-/
import Derived.Test.YthjllnabjnjpmaaB
namespace Go.Proofs.Ythjllnabjnjpmaa
set_option maxRecDepth 100000
open Go.RowKit

/-! ### rows of one-cell elements that are written -/
theorem row_set {w : World} {g e : Nat} {cs : Array Value} (h : w.heap[g]? = some (.cells cs e (0, 0))) (k : Nat) (v : Value) :
    (w.setCell ⟨g, k, none⟩ v).heap[g]? = some (.cells (cs.setIfInBounds k v) e (0, 0)) := by
  simp [World.setCell, Array.getElem?_modify, h]
theorem row_cell {w : World} {g e : Nat} {cs : Array Value} (h : w.heap[g]? = some (.cells cs e (0, 0))) (k : Nat) (hk : k < cs.size) :
    w.cell? ⟨g, k, none⟩ = some cs[k] := by rw [cell_of_row w g k cs e (0, 0) h]; exact Array.getElem?_eq_getElem hk
theorem row_frozen {w : World} {g e : Nat} {cs : Array Value} (h : w.heap[g]? = some (.cells cs e (0, 0))) (k : Nat) : w.frozen? ⟨g, k, none⟩ = false := by
  simp [World.frozen?, h]
theorem row_take_set {cs : Array Value} {k : Nat} (hk : k < cs.size) (v : Value) : (cs.setIfInBounds k v).toList.take (k + 1) = cs.toList.take k ++ [v] := by
  rw [Array.toList_setIfInBounds, List.take_succ_eq_append_getElem (by simpa using hk), List.getElem_set_self, List.take_set_of_le (Nat.le_refl _)]
theorem own_of_row {w : World} {g e base n : Nat} {cs : Array Value} (h : w.heap[g]? = some (.cells cs e (0, 0))) (hb : base ≤ g) (hn : cs.size = n) (hm : n ≤ maxLen) :
    w.ownsRow base e 1 (.slice (some ⟨g, 0, none⟩) n n) n cs.toList :=
  ⟨by simp [hn], .inr ⟨g, n, cs, rfl, hb, h, Nat.le_refl _, hm, by simp [hn], by rw [List.take_of_length_le (by simp [hn])]⟩⟩

theorem infoStr : (Try.prog.info? 9).map (fun i => (i.zero, i.size, i.bytes)) = some (some (.string ⟨#[]⟩), 1, 16) := by kernel_rfl

/-- a new slice of texts comes back; nothing that was there has turned -/
def FreshS (g : List ByteArray) (w : World) (e : Ending) (w' : World) : Prop :=
  ∃ A c, e = .returned (.slice A g.length c) ∧ w'.ownsRow w.heap.size 9 1 (.slice A g.length c) g.length (sv g) ∧ Below w.heap.size w w'


/-! ### what a grid is -/
def width (g : List ByteArray) : Nat := (g.getD 0 ⟨#[]⟩).size
def rowB (m : Nat) (s : ByteArray) : Bool := s.size == m && s.toList.all letterB
def gridB (g : List ByteArray) : Bool := decide (1 ≤ g.length ∧ g.length ≤ 5) && decide (1 ≤ width g ∧ width g ≤ 5) && g.all (rowB (width g))
theorem gridB_iff {g : List ByteArray} : gridB g = true ↔ (1 ≤ g.length ∧ g.length ≤ 5) ∧ (1 ≤ width g ∧ width g ≤ 5) ∧ ∀ k (h : k < g.length), rowB (width g) g[k] = true := by
  unfold gridB
  simp only [Bool.and_eq_true, decide_eq_true_eq, List.all_eq_true, and_assoc]
  constructor
  · rintro ⟨h1, h2, h3⟩
    exact ⟨h1, h2, h3.1, h3.2.1, fun k hk => h3.2.2 _ (List.getElem_mem hk)⟩
  · rintro ⟨h1, h2, h3, h4, h5⟩
    refine ⟨h1, h2, h3, h4, fun x hx => ?_⟩
    obtain ⟨k, hk, rfl⟩ := List.mem_iff_getElem.1 hx
    exact h5 k hk
theorem gridB_len {g : List ByteArray} (h : ¬ (1 ≤ g.length ∧ g.length ≤ 5)) : gridB g = false := by
  rw [← Bool.not_eq_true, gridB_iff]; exact fun x => h x.1
theorem gridB_row {g : List ByteArray} {k : Nat} (hk : k < g.length) (h : rowB (width g) g[k] = false) : gridB g = false := by
  rw [← Bool.not_eq_true, gridB_iff]; exact fun x => by rw [x.2.2 k hk] at h; cases h
theorem gridB_wide {g : List ByteArray} (h : ¬ (1 ≤ width g ∧ width g ≤ 5)) : gridB g = false := by
  rw [← Bool.not_eq_true, gridB_iff]; exact fun x => h x.2.1
theorem width_eq {g : List ByteArray} (h : 0 < g.length) : width g = g[0].size := by unfold width; rw [List.getD_eq_getElem?_getD, List.getElem?_eq_getElem h]; rfl
theorem rowB_size {m : Nat} {s : ByteArray} (h : s.size ≠ m) : rowB m s = false := by unfold rowB; rw [beq_eq_false_iff_ne.2 h]; rfl
theorem toList_length (s : ByteArray) : s.toList.length = s.size := by rw [ByteArray.toList_eq]; rfl
theorem toList_get (s : ByteArray) (j : Nat) (h : j < s.size) : s.toList[j]'(by rw [toList_length]; exact h) = s[j] := by
  simp only [ByteArray.toList_eq]; rfl
theorem rowB_letter {m : Nat} {s : ByteArray} {j : Nat} (hj : j < s.size) (h : letterB s[j] = false) : rowB m s = false := by
  rw [← Bool.not_eq_true]; unfold rowB
  simp only [Bool.and_eq_true, List.all_eq_true]
  intro x
  have := x.2 s[j] (by rw [← toList_get s j hj]; exact List.getElem_mem _)
  rw [this] at h; cases h
theorem rowB_yes {m : Nat} {s : ByteArray} (h : s.size = m) (hl : ∀ j (hj : j < s.size), letterB s[j] = true) : rowB m s = true := by
  unfold rowB
  simp only [Bool.and_eq_true, List.all_eq_true, beq_iff_eq]
  refine ⟨h, fun x hx => ?_⟩
  obtain ⟨j, hj, rfl⟩ := List.mem_iff_getElem.1 hx
  rw [toList_length] at hj
  rw [toList_get s j hj]; exact hl j hj

set_option maxHeartbeats 800000 in
theorem iGridIn_any (A : Option Addr) (c : Nat) (g : List ByteArray) (w : World) (B : Nat) (hr : Rd w B A (sv g)) (hm : g.length ≤ maxLen) (hs : ∀ s ∈ g, s.size ≤ maxLen) :
    Calls Try.prog 31 #[.slice A g.length c] w fun e w' => e = .returned (.bool (gridB g)) ∧ w = w' := by
  unfold maxLen at hm
  by_cases hin : 1 ≤ g.length ∧ g.length ≤ 5
  · have hib : inB (g.length : Int) 1 5 = true := inB_yes (by omega)
    have HW := Lib.hid (width_eq (g := g) (by omega))
    obtain ⟨hin1, hin2⟩ := hin
    obtain ⟨b, off, rfl, hb, hc0⟩ := hr.at_ (sv_get g 0 (by omega))
    rw [Nat.add_zero] at hc0
    have hsz0 : g[0].size ≤ 9223372036854775807 := by have := hs g[0] (by simp); simpa [maxLen] using this
    generalize hg0 : g[0] = s0 at *
    clear hg0
    go_enter Try.func31, Try.ntmps31
    go_wp2_with (go_at_call 32; refine (within_any _ _ _ _).mono ?_; rintro e w' ⟨rfl, rfl⟩)
    go_loop [12] (fun i => ∃ k : Nat, k ≤ g.length ∧ i = .int .i64 k ∧ Hid (∀ j (h : j < g.length), j < k → rowB (width g) g[j] = true)) (fun i => g.length - (intOf i).toNat)
    case atStart => exact ⟨0, Nat.zero_le _, rfl, fun j _ h => absurd h (by omega)⟩
    case round =>
      obtain ⟨k, hk, rfl, HR⟩ := hrel
      by_cases hlt : k < g.length
      · obtain ⟨b', off', h1, hb', hc⟩ := hr.at_ (sv_get g k hlt)
        injection h1 with h1
        injection h1 with h1 h2 _
        subst h1; subst h2
        have hsz : g[k].size ≤ 9223372036854775807 := by have := hs g[k] (by simp); simpa [maxLen] using this
        have HB := Lib.hid (fun h => gridB_row (g := g) hlt h)
        have HR2 : Hid (rowB (width g) g[k] = true → ∀ j (h : j < g.length), j < k + 1 → rowB (width g) g[j] = true) := by
          intro hk j hj hjk
          rcases Nat.lt_or_ge j k with h | h
          · exact HR.out j hj h
          · obtain rfl : j = k := by omega
            exact hk
        generalize g[k] = s at *
        clear hr hs HR
        by_cases hw : s.size = s0.size
        · have hwb : ((s.size : Int) != (s0.size : Int)) = false := by rw [hw]; simp
          have HS := Lib.hid (rowB_yes (s := s) (m := width g) (by rw [HW.out]; exact hw))
          clear hw
          go_wp2
          go_loop [25] (fun i => ∃ j : Nat, j ≤ s.size ∧ i = .int .i64 j ∧ Hid (∀ x (hx : x < s.size), x < j → letterB s[x] = true)) (fun i => s.size - (intOf i).toNat)
          case atStart => exact ⟨0, Nat.zero_le _, rfl, fun j _ h => absurd h (by omega)⟩
          case round =>
            obtain ⟨j, hj, rfl, HJ⟩ := hrel
            by_cases hjl : j < s.size
            · have HJ2 : Hid (letterB s[j] = true → ∀ x (hx : x < s.size), x < j + 1 → letterB s[x] = true) := by
                intro hk x hx hxj
                rcases Nat.lt_or_ge x j with h | h
                · exact HJ.out x hx h
                · obtain rfl : x = j := by omega
                  exact hk
              have HJ3 := Lib.hid (fun h => rowB_letter (m := width g) hjl h)
              clear HJ
              by_cases hl : letterB s[j] = true
              · go_wp2_with (go_at_call 39; refine (letterOk_any _ _).mono ?_; rintro e w' ⟨rfl, rfl⟩)
                go_round
                case rel => exact ⟨j + 1, by omega, by go_num, HJ2.out hl⟩
                case measure => simp [intOf]; omega
              · have hl := eq_false_of_ne_true hl
                go_wp2_with (go_at_call 39; refine (letterOk_any _ _).mono ?_; rintro e w' ⟨rfl, rfl⟩)
                go_ret
                exact ⟨by rw [HB.out (HJ3.out hl)]; rfl, rfl⟩
            · have HJ2 : Hid (∀ j (hj : j < s.size), letterB s[j] = true) := fun x hx => HJ.out x hx (by omega)
              clear HJ
              go_wp2
              go_round
              case rel => exact ⟨k + 1, by omega, by go_num, HR2.out (HS.out HJ2.out)⟩
              case measure => simp [intOf]; omega
        · have hwb : ((s.size : Int) != (s0.size : Int)) = true := by rw [bne_iff_ne]; omega
          have HN := Lib.hid (HB.out (rowB_size (m := width g) (by rw [HW.out]; exact hw)))
          clear hw
          go_wp2
          go_ret
          exact ⟨by rw [HN.out]; rfl, rfl⟩
      · have HR2 : Hid (∀ j (h : j < g.length), rowB (width g) g[j] = true) := fun j h => HR.out j h (by omega)
        clear HR hr hs
        by_cases hwd : 1 ≤ width g ∧ width g ≤ 5
        · have hib2 : inB (s0.size : Int) 1 5 = true := inB_yes (by have := HW.out; omega)
          have HN := Lib.hid (gridB_iff.2 ⟨⟨hin1, hin2⟩, hwd, HR2.out⟩)
          clear hwd
          go_wp2_with (go_at_call 32; refine (within_any _ _ _ _).mono ?_; rintro e w' ⟨rfl, rfl⟩)
          go_ret
          exact ⟨by rw [HN.out]; rfl, rfl⟩
        · have hib2 : inB (s0.size : Int) 1 5 = false := inB_no (by have := HW.out; omega)
          have HN := Lib.hid (gridB_wide hwd)
          clear hwd
          go_wp2_with (go_at_call 32; refine (within_any _ _ _ _).mono ?_; rintro e w' ⟨rfl, rfl⟩)
          go_ret
          exact ⟨by rw [HN.out]; rfl, rfl⟩
  · have hib : inB (g.length : Int) 1 5 = false := inB_no (by omega)
    have HN := Lib.hid (gridB_len hin)
    clear hin hr hs
    go_enter Try.func31, Try.ntmps31
    go_wp2_with (go_at_call 32; refine (within_any _ _ _ _).mono ?_; rintro e w' ⟨rfl, rfl⟩)
    go_ret
    exact ⟨by rw [HN.out]; rfl, rfl⟩
set_option maxHeartbeats 800000 in
theorem sGridIn_any (A : Option Addr) (c : Nat) (g : List ByteArray) (w : World) (B : Nat) (hr : Rd w B A (sv g)) (hm : g.length ≤ maxLen) (hs : ∀ s ∈ g, s.size ≤ maxLen) :
    Calls Try.prog 33 #[.slice A g.length c] w fun e w' => e = .returned (.bool (gridB g)) ∧ Dr w w' := by
  unfold maxLen at hm
  go_enter Try.func33, Try.ntmps33
  go_wp2
  go_loopw [3] (fun i wr => ∃ k : Nat, k ≤ g.length ∧ i = .int .i64 k ∧ Hid (∀ j (h : j < g.length), j < k → rowB (width g) g[j] = true ∧ 1 ≤ width g ∧ width g ≤ 5) ∧ Dr w wr) (fun i _ => g.length - (intOf i).toNat)
  case atStart => exact ⟨0, Nat.zero_le _, rfl, fun j _ h => absurd h (by omega), Dr.refl _⟩
  case round =>
    obtain ⟨k, hk, rfl, HR, HD⟩ := hrel
    replace hr := hr.below (HD.below B)
    by_cases hlt : k < g.length
    · have HW := Lib.hid (width_eq (g := g) (by omega))
      obtain ⟨b, off, rfl, hb, hc0⟩ := hr.at_ (sv_get g 0 (by omega))
      rw [Nat.add_zero] at hc0
      obtain ⟨b', off', h1, hb', hc⟩ := hr.at_ (sv_get g k hlt)
      injection h1 with h1
      injection h1 with h1 h2 _
      subst h1; subst h2
      have hsz0 : g[0].size ≤ 9223372036854775807 := by have := hs g[0] (by simp); simpa [maxLen] using this
      have hsz : g[k].size ≤ 9223372036854775807 := by have := hs g[k] (by simp); simpa [maxLen] using this
      have HB := Lib.hid (fun h => gridB_row (g := g) hlt h)
      have HR2 : Hid (rowB (width g) g[k] = true → 1 ≤ width g ∧ width g ≤ 5 → ∀ j (h : j < g.length), j < k + 1 → rowB (width g) g[j] = true ∧ 1 ≤ width g ∧ width g ≤ 5) := by
        intro hk hw j hj hjk
        rcases Nat.lt_or_ge j k with h | h
        · exact HR.out j hj h
        · obtain rfl : j = k := by omega
          exact ⟨hk, hw⟩
      generalize g[0] = s0 at *
      generalize g[k] = s at *
      have hkg : (k : Int) < g.length := by omega
      have hkg0 : (0 : Int) < g.length := by omega
      clear hr hs HR
      by_cases hw : s.size = s0.size
      · have hwb : ((s.size : Int) != (s0.size : Int)) = false := by rw [hw]; simp
        have HS := Lib.hid (rowB_yes (s := s) (m := width g) (by rw [HW.out]; exact hw))
        have HSW := Lib.hid (show s.size = width g by rw [HW.out]; exact hw)
        clear hw
        by_cases hwd : 1 ≤ s.size ∧ s.size ≤ 5
        · have hib : inB (s.size : Int) 1 5 = true := inB_yes (by omega)
          have HWD : Hid (1 ≤ width g ∧ width g ≤ 5) := by rw [← HSW.out]; exact hwd
          clear hwd
          go_wp2_with fail
          go_quiet ((go_at_call 34; refine qsame (l6In_b _ _ _ _ hib _)))
          replace hc0 : (wr.drewN nq).cell? _ = _ := hc0
          replace hc : (wr.drewN nq).cell? _ = _ := hc
          replace HD := HD.drewN nq
          generalize wr.drewN nq = w2 at *
          go_wp2
          go_loop [4] (fun i => ∃ j : Nat, j ≤ s.size ∧ i = .int .i64 j ∧ Hid (∀ x (hx : x < s.size), x < j → letterB s[x] = true)) (fun i => s.size - (intOf i).toNat)
          case atStart => exact ⟨0, Nat.zero_le _, rfl, fun j _ h => absurd h (by omega)⟩
          case round =>
            obtain ⟨j, hj, rfl, HJ⟩ := hrel
            by_cases hjl : j < s.size
            · have HJ2 : Hid (letterB s[j] = true → ∀ x (hx : x < s.size), x < j + 1 → letterB s[x] = true) := by
                intro hk x hx hxj
                rcases Nat.lt_or_ge x j with h | h
                · exact HJ.out x hx h
                · obtain rfl : x = j := by omega
                  exact hk
              have HJ3 := Lib.hid (fun h => rowB_letter (m := width g) hjl h)
              clear HJ
              by_cases hl : letterB s[j] = true
              · go_wp2_with (go_at_call 41; refine (l1Letter_any _ _).mono ?_; rintro e w' ⟨rfl, rfl⟩)
                go_round
                case rel => exact ⟨j + 1, by omega, by go_num, HJ2.out hl⟩
                case measure => simp [intOf]; omega
              · have hl := eq_false_of_ne_true hl
                go_wp2_with (go_at_call 41; refine (l1Letter_any _ _).mono ?_; rintro e w' ⟨rfl, rfl⟩)
                go_ret
                exact ⟨by rw [HB.out (HJ3.out hl)]; rfl, HD⟩
            · have HJ2 : Hid (∀ j (hj : j < s.size), letterB s[j] = true) := fun x hx => HJ.out x hx (by omega)
              clear HJ
              go_wp2
              go_roundw
              case rel => exact ⟨k + 1, by omega, by go_num, HR2.out (HS.out HJ2.out) HWD.out, HD⟩
              case measure => simp [intOf]; omega
        · have hib : inB (s.size : Int) 1 5 = false := inB_no (by omega)
          have HN := Lib.hid (gridB_wide (g := g) (by rw [← HSW.out]; exact hwd))
          clear hwd
          go_wp2_with fail
          go_quiet ((go_at_call 34; refine qsame (l6In_b _ _ _ _ hib _)))
          go_wp2
          go_ret
          exact ⟨by rw [HN.out]; rfl, HD.drewN _⟩
      · have hwb : ((s.size : Int) != (s0.size : Int)) = true := by rw [bne_iff_ne]; omega
        have HN := Lib.hid (HB.out (rowB_size (m := width g) (by rw [HW.out]; exact hw)))
        clear hw
        go_wp2_with fail
        go_quiet ((go_at_call 34; refine qsame (l6In_b _ _ _ _ hib _)))
        go_wp2
        go_ret
        exact ⟨by rw [HN.out]; rfl, HD.drewN _⟩
    · by_cases hin : 1 ≤ g.length ∧ g.length ≤ 5
      · have hib : inB (g.length : Int) 1 5 = true := inB_yes (by omega)
        have HN := Lib.hid (gridB_iff.2 ⟨hin, (HR.out 0 (by omega) (by omega)).2, fun j h => (HR.out j h (by omega)).1⟩)
        clear HR hr hs hin
        go_wp2_with (go_at_call 34; refine (l6In_any _ _ _ _).mono ?_; rintro e w' ⟨rfl, rfl⟩)
        go_ret
        exact ⟨by rw [HN.out]; rfl, HD⟩
      · have hib : inB (g.length : Int) 1 5 = false := inB_no (by omega)
        have HN := Lib.hid (gridB_len hin)
        clear HR hr hs hin
        go_wp2_with (go_at_call 34; refine (l6In_any _ _ _ _).mono ?_; rintro e w' ⟨rfl, rfl⟩)
        go_ret
        exact ⟨by rw [HN.out]; rfl, HD⟩
end Go.Proofs.Ythjllnabjnjpmaa
