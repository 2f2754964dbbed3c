/-
  CONTRACTS: l1Count, GridCount, cells, GridFull of the program and of the reference.
-/
import Derived.Test.YthjllnabjnjpmaaG
namespace Go.Proofs.Ythjllnabjnjpmaa
set_option maxRecDepth 100000
open Go.RowKit

theorem u8_beq (a b : UInt8) : ((a.toNat : Int) == (b.toNat : Int)) = (a == b) := by
  rw [Bool.eq_iff_iff, beq_iff_eq, beq_iff_eq]
  constructor
  · intro h
    exact UInt8.toNat_inj.1 (by exact_mod_cast h)
  · rintro rfl; rfl
theorem u8_bne (a b : UInt8) : ((a.toNat : Int) != (b.toNat : Int)) = (a != b) := by unfold bne; rw [u8_beq]

/-! ### counted letters -/
def cntL (p : UInt8 → Bool) (l : List UInt8) : Nat := (l.filter p).length
def cntG (p : UInt8 → Bool) (g : List ByteArray) : Nat := (g.map fun s => cntL p s.toList).sum
theorem cntL_le (p : UInt8 → Bool) (l : List UInt8) : cntL p l ≤ l.length := List.length_filter_le _ _
theorem cntL_snoc (p : UInt8 → Bool) (l : List UInt8) (b : UInt8) : cntL p (l ++ [b]) = cntL p l + if p b then 1 else 0 := by
  unfold cntL; rw [List.filter_append, List.length_append]; by_cases h : p b <;> simp [h]
theorem toList_take_succ (s : ByteArray) (j : Nat) (h : j < s.size) : s.toList.take (j + 1) = s.toList.take j ++ [s[j]] := by
  rw [List.take_succ_eq_append_getElem (by rw [toList_length]; exact h), toList_get s j h]
theorem toList_take_all (s : ByteArray) : s.toList.take s.size = s.toList := List.take_of_length_le (by rw [toList_length]; exact Nat.le_refl _)
theorem cntG_snoc (p : UInt8 → Bool) (g : List ByteArray) (s : ByteArray) : cntG p (g ++ [s]) = cntG p g + cntL p s.toList := by simp [cntG]
theorem cntG_le (p : UInt8 → Bool) (g : List ByteArray) (h : ∀ s ∈ g, s.size ≤ 5) : cntG p g ≤ 5 * g.length := by
  induction g with
  | nil => simp [cntG]
  | cons s g ih =>
    have h1 := ih fun x hx => h x (List.mem_cons_of_mem _ hx)
    have h2 := cntL_le p s.toList
    rw [toList_length] at h2
    have h3 := h s (List.mem_cons_self ..)
    simp only [cntG, List.map_cons, List.sum_cons, List.length_cons] at h1 ⊢
    omega

/-! ### what a grid's rows are -/
theorem grid_len {g : List ByteArray} (h : gridB g = true) : 1 ≤ g.length ∧ g.length ≤ 5 := (gridB_iff.1 h).1
theorem grid_width {g : List ByteArray} (h : gridB g = true) : 1 ≤ width g ∧ width g ≤ 5 := (gridB_iff.1 h).2.1
theorem rowB_iff {m : Nat} {s : ByteArray} : rowB m s = true ↔ s.size = m ∧ ∀ j (hj : j < s.size), letterB s[j] = true := by
  constructor
  · intro h
    refine ⟨?_, fun j hj => ?_⟩
    · rcases Nat.decEq s.size m with hn | he
      · rw [rowB_size hn] at h; cases h
      · exact he
    · cases hl : letterB s[j] with
      | true => rfl
      | false => rw [rowB_letter hj hl] at h; cases h
  · rintro ⟨h1, h2⟩; exact rowB_yes h1 h2
theorem grid_row {g : List ByteArray} (h : gridB g = true) (k : Nat) (hk : k < g.length) : g[k].size = width g := (rowB_iff.1 ((gridB_iff.1 h).2.2 k hk)).1
theorem grid_letter {g : List ByteArray} (h : gridB g = true) (k : Nat) (hk : k < g.length) (j : Nat) (hj : j < g[k].size) : letterB g[k][j] = true := (rowB_iff.1 ((gridB_iff.1 h).2.2 k hk)).2 j hj
theorem grid_mem {g : List ByteArray} (h : gridB g = true) (s : ByteArray) (hs : s ∈ g) : s.size = width g := by
  obtain ⟨k, hk, rfl⟩ := List.mem_iff_getElem.1 hs
  exact grid_row h k hk
theorem grid_small {g : List ByteArray} (h : gridB g = true) (s : ByteArray) (hs : s ∈ g) : s.size ≤ 5 := by rw [grid_mem h s hs]; exact (grid_width h).2
theorem cnt_bound {g : List ByteArray} (h : gridB g = true) (p : UInt8 → Bool) (k : Nat) : cntG p (g.take k) ≤ 25 := by
  have h1 := cntG_le p (g.take k) fun s hs => grid_small h s (List.mem_of_mem_take hs)
  have h2 := grid_len h
  rw [List.length_take] at h1; omega


/-! ### plain: counts of a grid -/
theorem cntL_split (l : List UInt8) : cntL (· == 46) l + cntL (· != 46) l = l.length := by
  induction l with
  | nil => rfl
  | cons b l ih =>
    unfold cntL at *
    by_cases h : b = 46 <;> simp [h] <;> omega
theorem cntL_two (l : List UInt8) (h : ∀ b ∈ l, letterB b = true) : cntL (· == 114) l + cntL (· == 102) l = cntL (· != 46) l := by
  induction l with
  | nil => rfl
  | cons b l ih =>
    have h1 := ih fun x hx => h x (List.mem_cons_of_mem _ hx)
    have h2 := h b (List.mem_cons_self ..)
    unfold letterB at h2
    simp only [Bool.or_eq_true, beq_iff_eq] at h2
    unfold cntL at *
    rcases h2 with (rfl | rfl) | rfl <;> simp <;> omega
theorem cntG_split (g : List ByteArray) : cntG (· == 46) g + cntG (· != 46) g = (g.map (·.size)).sum := by
  induction g with
  | nil => rfl
  | cons s g ih =>
    have := cntL_split s.toList
    rw [toList_length] at this
    simp only [cntG, List.map_cons, List.sum_cons] at *
    omega
theorem sum_sizes {g : List ByteArray} (m : Nat) (h : ∀ s ∈ g, s.size = m) : (g.map (·.size)).sum = g.length * m := by
  induction g with
  | nil => simp
  | cons s g ih =>
    have h1 := ih fun x hx => h x (List.mem_cons_of_mem _ hx)
    have h2 := h s (List.mem_cons_self ..)
    simp only [List.map_cons, List.sum_cons, List.length_cons, h1, h2, Nat.succ_mul]
    omega
def mirrors (g : List ByteArray) : Nat := cntG (· != 46) g
def cellsN (g : List ByteArray) : Nat := g.length * width g
theorem grid_count {g : List ByteArray} (h : gridB g = true) : cntG (· == 46) g + mirrors g = cellsN g := by
  unfold mirrors cellsN
  rw [cntG_split, sum_sizes (width g) (grid_mem h)]
theorem grid_two {g : List ByteArray} (h : gridB g = true) : cntG (· == 114) g + cntG (· == 102) g = mirrors g := by
  unfold mirrors
  have hl : ∀ s ∈ g, ∀ b ∈ s.toList, letterB b = true := by
    intro s hs b hb
    obtain ⟨k, hk, rfl⟩ := List.mem_iff_getElem.1 hs
    obtain ⟨j, hj, rfl⟩ := List.mem_iff_getElem.1 hb
    have hj' := hj
    rw [toList_length] at hj'
    rw [toList_get _ j hj']
    exact grid_letter h k hk j hj'
  clear h
  induction g with
  | nil => rfl
  | cons s g ih =>
    have h1 := ih fun x hx => hl x (List.mem_cons_of_mem _ hx)
    have h2 := cntL_two s.toList (hl s (List.mem_cons_self ..))
    simp only [cntG, List.map_cons, List.sum_cons] at *
    omega
theorem cellsN_le {g : List ByteArray} (h : gridB g = true) : 1 ≤ cellsN g ∧ cellsN g ≤ 25 := by
  have h1 := grid_len h
  have h2 := grid_width h
  have h3 := Nat.mul_le_mul h1.2 h2.2
  have h4 := Nat.mul_le_mul h1.1 h2.1
  unfold cellsN
  omega
theorem mirrors_le {g : List ByteArray} (h : gridB g = true) : mirrors g ≤ 25 := by
  have := grid_count h
  have := cellsN_le h
  omega
def countR (g : List ByteArray) : Nat := if gridB g then mirrors g else 0
def fullB (g : List ByteArray) : Bool := gridB g && mirrors g == cellsN g
theorem full_alt {g : List ByteArray} (h : gridB g = true) : fullB g = (cntG (· == 46) g == 0) := by
  have := grid_count h
  unfold fullB
  rw [h, Bool.true_and, Bool.eq_iff_iff, beq_iff_eq, beq_iff_eq]
  omega


theorem cells_any (A : Option Addr) (c : Nat) (g : List ByteArray) (w : World) (B : Nat) (hr : Rd w B A (sv g)) (hg : gridB g = true) :
    Calls Try.prog 38 #[.slice A g.length c] w fun e w' => e = .returned (.int .i64 (cellsN g : Nat)) ∧ w = w' := by
  have hlen := grid_len hg
  have hwid := grid_width hg
  obtain ⟨b, off, rfl, hb, hc0⟩ := hr.at_ (sv_get g 0 (by omega))
  rw [Nat.add_zero] at hc0
  have hmul := mul_bd (n := g.length) (m := g[0].size) (a := 5) (b := 5) hlen.2 (by rw [← width_eq]; exact hwid.2)
  have HC := Lib.hid (show cellsN g = g.length * g[0].size by unfold cellsN; rw [width_eq (by omega)])
  have hsz : g[0].size ≤ 5 := by rw [← width_eq]; exact hwid.2
  have hpos : 0 < g.length := by omega
  obtain ⟨hmul1, hmul2⟩ := hmul
  generalize g[0] = s at *
  clear hr hg hlen hwid
  go_enter Try.func38, Try.ntmps38
  go_wp2
  go_ret
  exact ⟨by rw [HC.out, Int.natCast_mul]; rfl, rfl⟩
set_option maxHeartbeats 800000 in
theorem iGridCount_any (A : Option Addr) (c : Nat) (g : List ByteArray) (w : World) (B : Nat) (hr : Rd w B A (sv g)) (hm : g.length ≤ maxLen) (hs : ∀ s ∈ g, s.size ≤ maxLen) :
    Calls Try.prog 49 #[.slice A g.length c] w fun e w' => e = .returned (.tuple #[.int .i64 (countR g : Nat), .bool (gridB g)]) ∧ w = w' := by
  have hG := iGridIn_any A c g w B hr hm hs
  cases hg : gridB g
  · rw [hg] at hG
    have HN := Lib.hid (show countR g = 0 by unfold countR; rw [hg]; rfl)
    have HG := Lib.hid hG
    clear hg hG hm hs
    go_enter Try.func49, Try.ntmps49
    go_wp2_with fail
    refine HG.out.mono ?_
    rintro e w' ⟨rfl, rfl⟩
    go_wp2
    go_ret2
    exact ⟨by rw [HN.out]; rfl, rfl⟩
  · rw [hg] at hG
    have HN := Lib.hid (show countR g = cntG (· != 46) g by unfold countR; rw [hg]; rfl)
    have HGI := Lib.hid hG
    have hlen := grid_len hg
    have HG := Lib.hid hg
    obtain ⟨hlen1, hlen2⟩ := hlen
    clear hg hG hm hs
    go_enter Try.func49, Try.ntmps49
    go_wp2_with fail
    refine HGI.out.mono ?_
    rintro e w' ⟨rfl, rfl⟩
    go_wp2
    go_loop [4, 13] (fun t i => ∃ k : Nat, k ≤ g.length ∧ i = .int .i64 k ∧ t = .int .i64 (cntG (· != 46) (g.take k) : Nat)) (fun _ i => g.length - (intOf i).toNat)
    case atStart => exact ⟨0, Nat.zero_le _, rfl, rfl⟩
    case round =>
      obtain ⟨k, hk, rfl, rfl⟩ := hrel
      by_cases hlt : k < g.length
      · obtain ⟨ba, off, rfl, hb, hc⟩ := hr.at_ (sv_get g k hlt)
        have hcb := cnt_bound HG.out (· != 46) k
        have hsz : g[k].size ≤ 5 := grid_small HG.out _ (List.getElem_mem _)
        have HT := Lib.hid (show g.take (k + 1) = g.take k ++ [g[k]] from List.take_succ_eq_append_getElem hlt)
        generalize g[k] = s at *
        have HC := Lib.hid (cntG_snoc (· != 46) (g.take k) s)
        generalize hN : cntG (· != 46) (g.take k) = N at *
        clear hN hr
        go_wp2
        go_loop [4, 19] (fun t i => ∃ j : Nat, j ≤ s.size ∧ i = .int .i64 j ∧ t = .int .i64 (N + cntL (· != 46) (s.toList.take j) : Nat)) (fun _ i => s.size - (intOf i).toNat)
        case atStart => exact ⟨0, Nat.zero_le _, rfl, rfl⟩
        case round =>
          obtain ⟨j, hj, rfl, rfl⟩ := hrel
          have hle := cntL_le (· != 46) (s.toList.take j)
          have hle2 : (s.toList.take j).length ≤ j := List.length_take_le _ _
          by_cases hjl : j < s.size
          · have HS := Lib.hid (toList_take_succ s j hjl)
            have HS2 := Lib.hid (cntL_snoc (· != 46) (s.toList.take j) s[j])
            have hq : ((s[j].toNat : Int) != 46) = (s[j] != 46) := u8_bne s[j] 46
            cases hv : (s[j] != 46)
            · rw [hv] at hq
              have HV := Lib.hid hv
              clear hv
              go_wp2
              go_round
              case rel => exact ⟨j + 1, by omega, by go_num, by rw [HS.out, HS2.out, HV.out]; rfl⟩
              case measure => simp [intOf]; omega
            · rw [hv] at hq
              have HV := Lib.hid hv
              clear hv
              go_wp2
              go_round
              case rel => exact ⟨j + 1, by omega, by go_num, by rw [HS.out, HS2.out, HV.out, if_pos rfl]; go_num⟩
              case measure => simp [intOf]; omega
          · have HJ := Lib.hid (show s.toList.take j = s.toList by rw [show j = s.size by omega]; exact toList_take_all s)
            go_wp2
            go_round
            case rel => exact ⟨k + 1, by omega, by go_num, by rw [HJ.out, HT.out, HC.out]⟩
            case measure => simp [intOf]; omega
      · have HK := Lib.hid (show g.take k = g from List.take_of_length_le (by omega))
        clear hr
        go_wp2
        go_ret2
        exact ⟨by rw [HN.out, HK.out]; rfl, rfl⟩
theorem iGridFull_any (A : Option Addr) (c : Nat) (g : List ByteArray) (w : World) (B : Nat) (hr : Rd w B A (sv g)) (hm : g.length ≤ maxLen) (hs : ∀ s ∈ g, s.size ≤ maxLen) :
    Calls Try.prog 19 #[.slice A g.length c] w fun e w' => e = .returned (.bool (fullB g)) ∧ w = w' := by
  have hG := iGridCount_any A c g w B hr hm hs
  cases hg : gridB g
  · rw [hg] at hG
    have HN := Lib.hid (show fullB g = false by unfold fullB; rw [hg]; rfl)
    have HG := Lib.hid hG
    clear hg hG hm hs
    go_enter Try.func19, Try.ntmps19
    go_wp2_with fail
    refine HG.out.mono ?_
    rintro e w' ⟨rfl, rfl⟩
    go_wp2
    go_ret
    exact ⟨by rw [HN.out]; rfl, rfl⟩
  · rw [hg, show countR g = mirrors g by unfold countR; rw [hg]; rfl] at hG
    have HN := Lib.hid (show fullB g = (mirrors g == cellsN g) by unfold fullB; rw [hg]; rfl)
    have hqi : ((mirrors g : Int) == (cellsN g : Int)) = (mirrors g == cellsN g) := by rw [Bool.eq_iff_iff, beq_iff_eq, beq_iff_eq]; omega
    have HG := Lib.hid hG
    have HGG := Lib.hid hg
    clear hg hG hm hs
    cases hq : (mirrors g == cellsN g)
    all_goals
      rw [hq] at HN hqi
      clear hq
      go_enter Try.func19, Try.ntmps19
      go_wp2_with fail
      refine HG.out.mono ?_
      rintro e w' ⟨rfl, rfl⟩
      go_wp2_with fail
      refine (cells_any A c g w B hr HGG.out).mono ?_
      rintro e w2 ⟨rfl, rfl⟩
      go_wp2
      go_ret
      exact ⟨by rw [HN.out]; rfl, rfl⟩
end Go.Proofs.Ythjllnabjnjpmaa
