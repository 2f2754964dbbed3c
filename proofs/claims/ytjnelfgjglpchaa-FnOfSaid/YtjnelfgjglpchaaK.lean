/-
  CONTRACTS: numberOf, GridNumber of the program and of the reference.
-/
import Derived.Test.YtjnelfgjglpchaaJ
import Derived.Test.YtjnelfgjglpchaaI
namespace Go.Proofs.Ytjnelfgjglpchaa
open Go.RowKit

def dg (b : UInt8) : Nat := if b = 114 then 1 else if b = 102 then 2 else 0
theorem dg_le (b : UInt8) : dg b ≤ 2 := by unfold dg; split; omega; split <;> omega
def numL : List UInt8 → Nat
  | [] => 0
  | b :: l => dg b + 3 * numL l
theorem numL_snoc (l : List UInt8) (b : UInt8) : numL (l ++ [b]) = numL l + pw3 l.length * dg b := by
  induction l with
  | nil => simp [numL, pw3_zero]
  | cons a l ih =>
    rw [List.cons_append, numL, ih, numL, List.length_cons, pw3_succ, Nat.mul_add, Nat.add_assoc]
    congr 2
    rw [Nat.mul_comm (pw3 l.length) 3, Nat.mul_assoc]
theorem numL_lt (l : List UInt8) : numL l < pw3 l.length := by
  induction l with
  | nil => simp [numL, pw3_zero]
  | cons a l ih =>
    have := dg_le a
    rw [numL, List.length_cons, pw3_succ]; omega
def fl (g : List ByteArray) : List UInt8 := (g.map ByteArray.toList).flatten
theorem fl_snoc (g : List ByteArray) (s : ByteArray) : fl (g ++ [s]) = fl g ++ s.toList := by simp [fl]
theorem fl_length {g : List ByteArray} (m : Nat) (h : ∀ s ∈ g, s.size = m) : (fl g).length = g.length * m := by
  induction g with
  | nil => simp [fl]
  | cons s g ih =>
    have h1 := ih fun x hx => h x (List.mem_cons_of_mem _ hx)
    have h2 := h s (List.mem_cons_self ..)
    have h3 : (fl (s :: g)) = s.toList ++ fl g := by simp [fl]
    rw [h3, List.length_append, h1, toList_length, h2, List.length_cons, Nat.succ_mul]; omega
theorem fl_get {g : List ByteArray} (m : Nat) (hm : 0 < m) (h : ∀ s ∈ g, s.size = m) (q : Nat) (hq : q < g.length * m) :
    ∃ (h1 : q / m < g.length) (h2 : q % m < (g[q / m]'h1).size), (fl g)[q]? = some ((g[q / m]'h1)[q % m]'h2) := by
  induction g generalizing q with
  | nil => simp at hq
  | cons s g ih =>
    have h2 := h s (List.mem_cons_self ..)
    have h3 : (fl (s :: g)) = s.toList ++ fl g := by simp [fl]
    rcases Nat.lt_or_ge q m with hlt | hge
    · have e1 : q / m = 0 := Nat.div_eq_of_lt hlt
      have e2 : q % m = q := Nat.mod_eq_of_lt hlt
      refine ⟨by rw [e1]; simp, by simp only [e1, e2, List.getElem_cons_zero]; omega, ?_⟩
      simp only [e1, e2, List.getElem_cons_zero]
      rw [h3, List.getElem?_append_left (by rw [toList_length]; omega), List.getElem?_eq_getElem (by rw [toList_length]; omega), toList_get s q (by omega)]
    · obtain ⟨r, rfl⟩ : ∃ r, q = r + m := ⟨q - m, by omega⟩
      have e1 : (r + m) / m = r / m + 1 := Nat.add_div_right r hm
      have e2 : (r + m) % m = r % m := Nat.add_mod_right r m
      have hr : r < g.length * m := by rw [List.length_cons, Nat.succ_mul] at hq; omega
      obtain ⟨g1, g2, g3⟩ := ih (fun x hx => h x (List.mem_cons_of_mem _ hx)) r hr
      refine ⟨by rw [e1]; simp; exact g1, by simp only [e1, e2, List.getElem_cons_succ]; exact g2, ?_⟩
      simp only [e1, e2, List.getElem_cons_succ]
      rw [h3, List.getElem?_append_right (by rw [toList_length]; omega), toList_length, h2, Nat.add_sub_cancel]
      exact g3
def nAt (L : List UInt8) (s : ByteArray) (j : Nat) : Nat := numL (L ++ s.toList.take j)
def numG (g : List ByteArray) : Nat := numL (fl g)
def numB (g : List ByteArray) : Bool := gridB g && decide (cellsN g ≤ 20)
def numR (g : List ByteArray) : Nat := if numB g then numG g else 0

set_option maxHeartbeats 800000 in
theorem numberOf_any (A : Option Addr) (c : Nat) (g : List ByteArray) (w : World) (B : Nat) (hr : Rd w B A (sv g)) (hg : gridB g = true) :
    Calls Try.prog 74 #[.slice A g.length c] w fun e w' => e = .returned (.int .i64 (numG g : Nat)) ∧ w = w' := by
  have hlen := grid_len hg
  have HG := Lib.hid hg
  obtain ⟨hlen1, hlen2⟩ := hlen
  clear hg
  go_enter Try.func74, Try.ntmps74
  go_wp2
  go_loop [3, 4, 10] (fun t p i => ∃ k : Nat, k ≤ g.length ∧ i = .int .i64 k ∧ t = .int .i64 (numL (fl (g.take k)) : Nat) ∧ p = .int .i64 (pw3 (fl (g.take k)).length : Nat)) (fun _ _ i => g.length - (intOf i).toNat)
  case atStart => exact ⟨0, Nat.zero_le _, rfl, rfl, rfl⟩
  case round =>
    obtain ⟨k, hk, rfl, rfl, rfl⟩ := hrel
    by_cases hlt : k < g.length
    · obtain ⟨ba, off, rfl, hb, hc⟩ := hr.at_ (sv_get g k hlt)
      have hfl := fl_length (g := g.take k) (width g) fun s hs => grid_mem HG.out s (List.mem_of_mem_take hs)
      have hwid := grid_width HG.out
      rw [List.length_take, Nat.min_eq_left hk] at hfl
      have hmulb := Nat.mul_le_mul (show k ≤ 4 by omega) hwid.2
      have hsz : g[k].size ≤ 5 := grid_small HG.out _ (List.getElem_mem _)
      have HT := Lib.hid (show g.take (k + 1) = g.take k ++ [g[k]] from List.take_succ_eq_append_getElem hlt)
      generalize g[k] = s at *
      have HC := Lib.hid (fl_snoc (g.take k) s)
      generalize hL : fl (g.take k) = L at *
      have hL20 : L.length ≤ 20 := by omega
      clear hL hr hfl hwid hmulb
      go_wp2
      go_loop [3, 4, 16] (fun t p i => ∃ j : Nat, j ≤ s.size ∧ i = .int .i64 j ∧ t = .int .i64 (nAt L s j : Nat) ∧ p = .int .i64 (pw3 (L.length + j) : Nat)) (fun _ _ i => s.size - (intOf i).toNat)
      case atStart => exact ⟨0, Nat.zero_le _, rfl, by simp [nAt], rfl⟩
      case round =>
        obtain ⟨j, hj, rfl, rfl, rfl⟩ := hrel
        by_cases hjl : j < s.size
        · have hlen3 : (L ++ s.toList.take j).length = L.length + j := by rw [List.length_append, List.length_take, toList_length]; omega
          have hn1 : nAt L s j < pw3 (L.length + j) := by rw [← hlen3]; exact numL_lt _
          have hp1 := pw3_le (k := L.length + j) (by omega)
          have hp0 := pw3_pos (L.length + j)
          have HN : Hid (nAt L s (j + 1) = nAt L s j + pw3 (L.length + j) * dg s[j]) := by
            unfold nAt
            rw [toList_take_succ s j hjl, ← List.append_assoc]
            exact (numL_snoc _ _).trans (by rw [hlen3])
          have HP := Lib.hid (show pw3 (L.length + (j + 1)) = pw3 (L.length + j) * 3 from pw3_succ _)
          have hq1 := u8_114 s[j]
          have hq2 := u8_102 s[j]
          clear hlen3
          by_cases h1 : s[j] = 114
          · have HD : Hid (nAt L s (j + 1) = nAt L s j + pw3 (L.length + j)) := by rw [HN.out]; unfold dg; rw [if_pos h1, Nat.mul_one]; rfl
            rw [beq_iff_eq.2 h1] at hq1
            clear hq2 h1 HN
            go_wp2
            go_round
            case rel => exact ⟨j + 1, by omega, by go_num, by rw [HD.out]; try go_num, by rw [HP.out]; go_num⟩
            case measure => simp [intOf]; omega
          · by_cases h2 : s[j] = 102
            · have HD : Hid (nAt L s (j + 1) = nAt L s j + 2 * pw3 (L.length + j)) := by rw [HN.out]; unfold dg; rw [if_neg h1, if_pos h2, Nat.mul_comm]; rfl
              rw [beq_eq_false_iff_ne.2 h1] at hq1
              rw [beq_iff_eq.2 h2] at hq2
              clear h2 h1 HN
              go_wp2
              go_round
              case rel => exact ⟨j + 1, by omega, by go_num, by rw [HD.out]; try go_num, by rw [HP.out]; go_num⟩
              case measure => simp [intOf]; omega
            · have HD : Hid (nAt L s (j + 1) = nAt L s j) := by rw [HN.out]; unfold dg; rw [if_neg h1, if_neg h2, Nat.mul_zero]; rfl
              rw [beq_eq_false_iff_ne.2 h1] at hq1
              rw [beq_eq_false_iff_ne.2 h2] at hq2
              clear h2 h1 HN
              go_wp2
              go_round
              case rel => exact ⟨j + 1, by omega, by go_num, by rw [HD.out]; try go_num, by rw [HP.out]; go_num⟩
              case measure => simp [intOf]; omega
        · have HJ := Lib.hid (show s.toList.take j = s.toList by rw [show j = s.size by omega]; exact toList_take_all s)
          have HJ2 := Lib.hid (show L.length + j = (L ++ s.toList).length by rw [List.length_append, toList_length]; omega)
          go_wp2
          go_round
          case rel => exact ⟨k + 1, by omega, by go_num, by rw [HT.out, HC.out, ← HJ.out]; rfl, by rw [HT.out, HC.out, HJ2.out]⟩
          case measure => simp [intOf]; omega
    · have HK := Lib.hid (show g.take k = g from List.take_of_length_le (by omega))
      clear hr
      go_wp2
      go_ret
      exact ⟨by first | rfl | (rw [HK.out]; rfl), rfl⟩

theorem iGridNumber_any (A : Option Addr) (c : Nat) (g : List ByteArray) (w : World) (B : Nat) (hr : Rd w B A (sv g)) (hm : g.length ≤ maxLen) (hs : ∀ s ∈ g, s.size ≤ maxLen) :
    Calls Try.prog 34 #[.slice A g.length c] w fun e w' => e = .returned (.tuple #[.int .i64 (numR g : Nat), .bool (numB g)]) ∧ w = w' := by
  have hG := iGridIn_any A c g w B hr hm hs
  cases hg : gridB g
  · rw [hg] at hG
    have HB := Lib.hid (show numB g = false by unfold numB; rw [hg]; rfl)
    have HN := Lib.hid (show numR g = 0 by unfold numR; rw [HB.out]; rfl)
    have HG := Lib.hid hG
    clear hg hG hm hs
    go_enter Try.func34, Try.ntmps34
    go_wp2_with fail
    refine HG.out.mono ?_
    rintro e w' ⟨rfl, rfl⟩
    go_wp2
    go_ret2
    exact ⟨by rw [HN.out, HB.out]; rfl, rfl⟩
  · rw [hg] at hG
    have HG := Lib.hid hG
    have HGG := Lib.hid hg
    by_cases hc20 : cellsN g ≤ 20
    · have HB := Lib.hid (show numB g = true by unfold numB; rw [hg, decide_eq_true hc20]; rfl)
      have HN := Lib.hid (show numR g = numG g by unfold numR; rw [HB.out]; rfl)
      clear hg hG hm hs
      go_enter Try.func34, Try.ntmps34
      go_wp2_with fail
      refine HG.out.mono ?_
      rintro e w' ⟨rfl, rfl⟩
      go_wp2_with fail
      refine (cells_any A c g w B hr HGG.out).mono ?_
      rintro e w' ⟨rfl, rfl⟩
      go_wp2_with fail
      refine (numberOf_any A c g w B hr HGG.out).mono ?_
      rintro e w' ⟨rfl, rfl⟩
      go_wp2
      go_ret2
      exact ⟨by rw [HN.out, HB.out]; rfl, rfl⟩
    · have HB := Lib.hid (show numB g = false by unfold numB; rw [hg, decide_eq_false hc20]; rfl)
      have HN := Lib.hid (show numR g = 0 by unfold numR; rw [HB.out]; rfl)
      clear hg hG hm hs
      go_enter Try.func34, Try.ntmps34
      go_wp2_with fail
      refine HG.out.mono ?_
      rintro e w' ⟨rfl, rfl⟩
      go_wp2_with fail
      refine (cells_any A c g w B hr HGG.out).mono ?_
      rintro e w' ⟨rfl, rfl⟩
      go_wp2
      go_ret2
      exact ⟨by rw [HN.out, HB.out]; rfl, rfl⟩
theorem wrap_div (q s : Nat) (h : q ≤ 1000000) : IntKind.i64.wrap ((q / s : Nat) : Int) = ((q / s : Nat) : Int) := IntWalk.i64_in _ (by
  have hx : q / s ≤ q := Nat.div_le_self _ _
  generalize q / s = x at *
  omega)
def nDrop (g : List ByteArray) (q : Nat) : Nat := numL ((fl g).drop q)
theorem nDrop_step {g : List ByteArray} {q : Nat} {b : UInt8} (h : (fl g)[q]? = some b) : nDrop g q = 3 * nDrop g (q + 1) + dg b := by
  obtain ⟨h1, h2⟩ := List.getElem?_eq_some_iff.1 h
  unfold nDrop
  rw [List.drop_eq_getElem_cons h1, numL, h2, Nat.add_comm]
theorem nDrop_lt (g : List ByteArray) (q : Nat) (h : (fl g).length ≤ 20) : nDrop g q < 3486784401 := by
  have h1 := numL_lt ((fl g).drop q)
  have h2 := pw3_mono (show ((fl g).drop q).length ≤ 20 by rw [List.length_drop]; omega)
  have h3 : pw3 20 = 3486784401 := by decide
  unfold nDrop; omega

set_option maxHeartbeats 1000000 in
theorem sGridNumber_any (A : Option Addr) (c : Nat) (g : List ByteArray) (w : World) (B : Nat) (hr : Rd w B A (sv g)) (hm : g.length ≤ maxLen) (hs : ∀ s ∈ g, s.size ≤ maxLen) :
    Calls Try.prog 52 #[.slice A g.length c] w fun e w' => e = .returned (.tuple #[.int .i64 (numR g : Nat), .bool (numB g)]) ∧ Dr w w' := by
  have hG := fun w' (h : Rd w' B A (sv g)) => sGridIn_any A c g w' B h hm hs
  cases hg : gridB g
  · rw [hg] at hG
    have HB := Lib.hid (show numB g = false by unfold numB; rw [hg]; rfl)
    have HN := Lib.hid (show numR g = 0 by unfold numR; rw [HB.out]; rfl)
    have HG := Lib.hid hG
    clear hg hG hm hs
    go_enter Try.func52, Try.ntmps52
    go_wp2_with fail
    refine (HG.out _ hr).mono ?_
    rintro e w' ⟨rfl, hd⟩
    go_wp2
    go_ret2
    exact ⟨by rw [HN.out, HB.out]; rfl, hd⟩
  · rw [hg] at hG
    have HG := Lib.hid hG
    have HGG := Lib.hid hg
    have hlen := grid_len hg
    have hwid := grid_width hg
    have hmul := mul_bd (n := g.length) (m := g[0].size) (a := 5) (b := 5) hlen.2 (by rw [← width_eq]; exact hwid.2)
    have HC := Lib.hid (show ((cellsN g : Nat) : Int) = (g.length : Int) * (g[0].size : Int) by unfold cellsN; rw [width_eq (by omega), Int.natCast_mul])
    have hsz : g[0].size ≤ 5 := by rw [← width_eq]; exact hwid.2
    have hsz1 : 1 ≤ g[0].size := by rw [← width_eq]; exact hwid.1
    have HW := Lib.hid (width_eq (g := g) (by omega))
    have HFL := Lib.hid (fl_length (width g) (grid_mem hg))
    have hpos : 0 < g.length := by omega
    obtain ⟨hmul1, hmul2⟩ := hmul
    obtain ⟨b0, off, hA, hb0, hc0⟩ := hr.at_ (sv_get g 0 (by omega))
    rw [Nat.add_zero] at hc0
    subst hA
    generalize hg0 : g[0] = s0 at *
    clear hg0 hlen hwid
    by_cases hc20 : cellsN g ≤ 20
    · have HB := Lib.hid (show numB g = true by unfold numB; rw [hg, decide_eq_true hc20]; rfl)
      have HN := Lib.hid (show numR g = numG g by unfold numR; rw [HB.out]; rfl)
      have hle : (g.length : Int) * (s0.size : Int) ≤ 20 := by rw [← HC.out]; omega
      have hfl20 : (fl g).length ≤ 20 := by rw [HFL.out]; exact hc20
      clear hg hG hm hs
      go_enter Try.func52, Try.ntmps52
      go_wp2_with fail
      refine (HG.out _ hr).mono ?_
      rintro e w1 ⟨rfl, hd⟩
      replace hc0 := (hd.below B).cell (p := ⟨b0, off, none⟩) hb0 |>.trans hc0
      replace hr := hr.below (hd.below B)
      go_wp2
      go_loopw [4, 5] (fun t i wr => ∃ q : Nat, q ≤ cellsN g ∧ i = .int .i64 ((q : Int) - 1) ∧ t = .int .i64 (nDrop g q : Nat) ∧ Dr w1 wr) (fun _ i _ => (intOf i + 1).toNat)
      case atStart => exact ⟨cellsN g, Nat.le_refl _, by rw [HC.out], by unfold nDrop; rw [List.drop_of_length_le (by rw [HFL.out]; exact Nat.le_refl _)]; rfl, Dr.refl _⟩
      case round =>
        obtain ⟨q, hq, rfl, rfl, hd2⟩ := hrel
        replace hc0 := (hd2.below B).cell (p := ⟨b0, off, none⟩) hb0 |>.trans hc0
        by_cases hq0 : 0 < q
        · obtain ⟨q, rfl⟩ : ∃ q', q = q' + 1 := ⟨q - 1, by omega⟩
          rw [show (((q + 1 : Nat) : Int) - 1) = (q : Int) from by omega]
          have hqc : q < g.length * s0.size := by unfold cellsN at hq; rw [HW.out] at hq; omega
          obtain ⟨h1, h2, h3⟩ := fl_get s0.size (by omega) (fun s hs => (grid_mem HGG.out s hs).trans HW.out) q hqc
          obtain ⟨b1, off1, e1, _, hc⟩ := (hr.below (hd2.below B)).at_ (sv_get g (q / s0.size) h1)
          injection e1 with e1
          injection e1 with e1 e2 _
          subst e1; subst e2
          have hdiv : (q : Int) / (s0.size : Int) = ((q / s0.size : Nat) : Int) := rfl
          have hmod : (q : Int) % (s0.size : Int) = ((q % s0.size : Nat) : Int) := rfl
          have htd : (q : Int).tdiv (s0.size : Int) = ((q / s0.size : Nat) : Int) := rfl
          have htm : (q : Int).tmod (s0.size : Int) = ((q % s0.size : Nat) : Int) := rfl
          have hne : ¬ (s0.size = 0) := by omega
          have hwr : IntKind.i64.wrap ((q / s0.size : Nat) : Int) = ((q / s0.size : Nat) : Int) := wrap_div q s0.size (by omega)
          have hn := nDrop_lt g (q + 1) hfl20
          have hs5 : (g[q / s0.size]'h1).size ≤ 5 := grid_small HGG.out _ (List.getElem_mem _)
          have HS := Lib.hid (nDrop_step h3)
          generalize (g[q / s0.size]'h1) = s at *
          have hri : ((q / s0.size : Nat) : Int) < (g.length : Int) := Int.ofNat_lt.2 h1
          have hci : ((q % s0.size : Nat) : Int) < (s.size : Int) := Int.ofNat_lt.2 h2
          have hr0 : (0 : Int) ≤ ((q / s0.size : Nat) : Int) := Int.natCast_nonneg _
          have hcc0 : (0 : Int) ≤ ((q % s0.size : Nat) : Int) := Int.natCast_nonneg _
          have hgl : (0 : Int) < (g.length : Int) := by omega
          clear hr h3 hqc h1
          generalize q / s0.size = r at *
          generalize q % s0.size = cc at *
          have hq1 := u8_114 s[cc]
          have hq2 := u8_102 s[cc]
          by_cases e1 : s[cc] = 114
          · have HD : Hid (nDrop g q = 3 * nDrop g (q + 1) + 1) := by rw [HS.out]; unfold dg; rw [if_pos e1]; rfl
            rw [beq_iff_eq.2 e1] at hq1
            clear hq2 e1 HS
            go_wp2_with fail
            go_quiet (fail)
            go_wp2
            go_roundw
            case rel => exact ⟨q, by omega, rfl, by rw [HD.out]; try go_num, hd2.drewN _⟩
            case measure => simp [intOf] <;> omega
          · by_cases e2 : s[cc] = 102
            · have HD : Hid (nDrop g q = 3 * nDrop g (q + 1) + 2) := by rw [HS.out]; unfold dg; rw [if_neg e1, if_pos e2]; rfl
              rw [beq_eq_false_iff_ne.2 e1] at hq1
              rw [beq_iff_eq.2 e2] at hq2
              clear e1 e2 HS
              go_wp2_with fail
              go_quiet (fail)
              go_wp2
              go_roundw
              case rel => exact ⟨q, by omega, rfl, by rw [HD.out]; try go_num, hd2.drewN _⟩
              case measure => simp [intOf] <;> omega
            · have HD : Hid (nDrop g q = 3 * nDrop g (q + 1) + 0) := by rw [HS.out]; unfold dg; rw [if_neg e1, if_neg e2]; rfl
              rw [beq_eq_false_iff_ne.2 e1] at hq1
              rw [beq_eq_false_iff_ne.2 e2] at hq2
              clear e1 e2 HS
              go_wp2_with fail
              go_quiet (fail)
              go_wp2
              go_roundw
              case rel => exact ⟨q, by omega, rfl, by rw [HD.out]; try go_num, hd2.drewN _⟩
              case measure => simp [intOf] <;> omega
        · obtain rfl : q = 0 := by omega
          go_wp2
          go_ret2
          exact ⟨by rw [HN.out, HB.out]; rfl, hd.trans hd2⟩
    · have HB := Lib.hid (show numB g = false by unfold numB; rw [hg, decide_eq_false hc20]; rfl)
      have HN := Lib.hid (show numR g = 0 by unfold numR; rw [HB.out]; rfl)
      have hgt : 20 < (g.length : Int) * (s0.size : Int) := by rw [← HC.out]; omega
      clear hg hG hm hs
      go_enter Try.func52, Try.ntmps52
      go_wp2_with fail
      refine (HG.out _ hr).mono ?_
      rintro e w1 ⟨rfl, hd⟩
      replace hc0 := (hd.below B).cell (p := ⟨b0, off, none⟩) hb0 |>.trans hc0
      go_wp2
      go_ret2
      exact ⟨by rw [HN.out, HB.out]; rfl, hd⟩
end Go.Proofs.Ytjnelfgjglpchaa
