/-
  CONTRACTS: BeamMeets of the reference; BeamLongest of the program and of the reference.
-/
import Derived.Test.YtfiaidphcecnhaaBI
namespace Go.Proofs.Ytfiaidphcecnhaa
open Go.RowKit

set_option maxHeartbeats 1600000 in
theorem sBeamMeets_any (A : Option Addr) (c : Nat) (g : List ByteArray) (p q : Int) (w : World) (hr : Rd w w.heap.size A (sv g)) (hm : g.length ≤ maxLen) (hs : ∀ s ∈ g, s.size ≤ maxLen) :
    Calls Try.prog 50 #[.slice A g.length c, .int .i64 p, .int .i64 q] w fun e w' => e = .returned (.tuple #[.int .i64 (meetsA g p q : Nat), .bool (meetsB g p q)]) ∧ Below w.heap.size w w' := by
  have hP := l2Given_any A c g p w _ hr hm hs
  have hQ := fun w (hr : Rd w w.heap.size A (sv g)) => l2Given_any A c g q w _ hr hm hs
  cases hb : givenB g p
  · rw [hb] at hP
    have HP := Lib.hid hP
    have hB : meetsB g p q = false := by unfold meetsB; rw [hb]; rfl
    have HB := Lib.hid hB
    have HN := Lib.hid (meetsA_no hB)
    clear hP hQ hb hr hm hs hB
    go_enter Try.func50, Try.ntmps50
    go_wp2_with fail
    refine HP.out.mono ?_
    rintro e w' ⟨rfl, hd⟩
    go_wp2
    go_ret2
    exact ⟨by rw [HN.out, HB.out]; rfl, hd.below _⟩
  · rw [hb] at hP
    cases hb2 : givenB g q
    · simp only [hb2] at hQ
      have HP := Lib.hid hP
      have HQ := Lib.hid hQ
      have hB : meetsB g p q = false := by unfold meetsB; rw [hb, hb2]; rfl
      have HB := Lib.hid hB
      have HN := Lib.hid (meetsA_no hB)
      clear hP hQ hb hb2 hm hs hB
      go_enter Try.func50, Try.ntmps50
      go_wp2_with fail
      refine HP.out.mono ?_
      rintro e w1 ⟨rfl, hd1⟩
      have HQ1 := Lib.hid (HQ.out _ (hr.later (hd1.below _)))
      clear hr HQ
      go_wp2_with fail
      refine HQ1.out.mono ?_
      rintro e w2 ⟨rfl, hd2⟩
      go_wp2
      go_ret2
      exact ⟨by rw [HN.out, HB.out]; rfl, (hd1.trans hd2).below _⟩
    · simp only [hb2] at hQ
      obtain ⟨k, rfl, hk, hg⟩ := given_nat hb
      obtain ⟨j, rfl, hj, _⟩ := given_nat hb2
      obtain ⟨he, hN⟩ := ends_B hg hk
      obtain ⟨he2, hN2⟩ := ends_B hg hj
      have HP := Lib.hid hP
      have HQ := Lib.hid hQ
      have HB1 := Lib.hid (fun w hr => l2Way_any A c g k _ _ w hr hg hk he hN)
      have HB2 := Lib.hid (fun w hr => l2Way_any A c g j _ _ w hr hg hj he2 hN2)
      have HG := Lib.hid hg
      have HE := Lib.hid (endA_yes hb)
      have HW1 := Lib.hid (wayA_yes_iv hb)
      have HW2 := Lib.hid (wayA_yes_iv hb2)
      have HL1 := wayA_yes_len hb
      have HL2 := wayA_yes_len hb2
      rw [ni_len100] at HL1 HL2
      have HL1 := Lib.hid HL1
      have HL2 := Lib.hid HL2
      have hMB : meetsB g (k : Nat) (j : Nat) = (!((k : Int) == (j : Int)) && !((endA g (k : Nat) : Int) == (j : Int))) := by unfold meetsB; rw [hb, hb2]; rfl
      clear hP hQ hb hb2 hm hs he he2 hg
      go_enter Try.func50, Try.ntmps50
      go_wp2_with fail
      refine HP.out.mono ?_
      rintro e w1 ⟨rfl, hd1⟩
      have hr1 := hr.later (hd1.below _)
      have hw1 := hd1.below w.heap.size
      have HQ1 := Lib.hid (HQ.out _ hr1)
      clear hr HQ HP hd1
      go_wp2_with fail
      refine HQ1.out.mono ?_
      rintro e w2 ⟨rfl, hd2⟩
      have hr2 := hr1.later (hd2.below _)
      have hw2 := below_next hw1 (hd2.below _)
      have HBA := Lib.hid (HB1.out _ hr2)
      clear hr1 hw1 HQ1 hd2 HB1
      go_wp2_with fail
      refine HBA.out.mono ?_
      rintro e w3 ⟨A3, c3, A4, c4, rfl, ho3, ho4, hb3⟩
      rw [HW1.out] at ho3
      have hr3 := hr2.later hb3
      have hx3 := Rd.of_own ho3
      have hw3 := below_next hw2 hb3
      have HBB := Lib.hid (HB2.out _ hr3)
      clear ho3 ho4 hr2 hw2 HBA hb3 HB2
      go_wp2_with fail
      refine HBB.out.mono ?_
      rintro e w4 ⟨A5, c5, A6, c6, rfl, ho5, ho6, hb4⟩
      rw [HW2.out] at ho5
      have HR := Lib.hid (hr3.later hb4)
      have HX := Lib.hid (hx3.later hb4)
      have HY := Lib.hid (Rd.of_own ho5)
      have hw4 := below_next hw3 hb4
      rw [← HE.out]
      clear ho5 ho6 hr3 hx3 hw3 HBB hb4 HE HW1 HW2
      cases hkj : ((k : Int) == (j : Int))
      · rw [hkj] at hMB
        cases hq : ((endA g (k : Nat) : Int) == (j : Int))
        · rw [hq] at hMB
          have HMA := Lib.hid (show meetsA g (k : Nat) (j : Nat) = cntB (cellsN g) (bothB (wayA g (k : Nat)) (wayA g (j : Nat))) by unfold meetsA; rw [hMB]; rfl)
          have HMB := Lib.hid hMB
          have hM := cells_25 HG.out
          have hl1 := wayA_len g (k : Nat)
          have hl2 := wayA_len g (j : Nat)
          obtain ⟨gl1, gl2⟩ := grid_len HG.out
          obtain ⟨b, off, rfl, hbb, _⟩ := HR.out.at_ (sv_get g 0 (by omega))
          obtain ⟨s0, hc0, hz0⟩ : ∃ s0 : ByteArray, w4.cell? ⟨b, off, none⟩ = some (.string s0) ∧ s0.size = width g := ⟨g[0], by have := HR.out.cell (sv_get g 0 (by omega)); rw [Nat.add_zero] at this; exact this, grid_row HG.out 0 (by omega)⟩
          have hz5 : s0.size ≤ 5 := by have := (grid_width HG.out).2; omega
          have hmul : (g.length : Int) * (s0.size : Int) = (cellsN g : Nat) := by unfold cellsN; rw [hz0, Int.natCast_mul]
          have hpos : 0 < g.length := by omega
          obtain ⟨M, hMM⟩ : ∃ M, cellsN g = M := ⟨_, rfl⟩
          rw [hMM] at HMA hM hmul
          clear hMM hMB hz0
          generalize wayA g (k : Nat) = la at *
          generalize wayA g (j : Nat) = lb at *
          have ho1 := fun x => l2Often_any A3 c3 la x w4 _ HX.out (by omega)
          have ho2 := fun x => l2Often_any A5 c5 lb x w4 _ HY.out (by omega)
          rw [HL1.out] at ho1
          rw [HL2.out] at ho2
          have HO1 := Lib.hid ho1
          have HO2 := Lib.hid ho2
          clear ho1 ho2
          clear HX HY HR
          go_wp2
          go_loop [14, 15] (fun t i => ∃ (k : Nat), k ≤ M ∧ i = .int .i64 k ∧ t = .int .i64 (cntB k (bothB la lb) : Nat)) (fun _ i => M - (intOf i).toNat)
          case atStart => exact ⟨0, Nat.zero_le _, rfl, rfl⟩
          case round =>
            obtain ⟨k, hk, rfl, rfl⟩ := hrel
            have hle := cntB_le k (bothB la lb)
            by_cases hlt : k < M
            · have HA1 := Lib.hid (HO1.out k)
              have HA2 := Lib.hid (HO2.out k)
              have HS := Lib.hid (cntB_succ k (bothB la lb))
              have HBO := Lib.hid (show bothB la lb k = (decide (0 < often la k) && decide (0 < often lb k)) from rfl)
              generalize often la k = y1 at *
              generalize often lb k = y2 at *
              have hltm : (k : Int) < (M : Int) := by omega
              rcases y1 with _ | y1
              · have HS2 := Lib.hid (show cntB (k + 1) (bothB la lb) = cntB k (bothB la lb) by rw [HS.out, HBO.out]; rfl)
                go_wp2_with fail
                refine HA1.out.mono ?_
                rintro e w7 ⟨rfl, rfl⟩
                go_wp2
                go_round
                case rel => exact ⟨k + 1, by omega, by go_num, by rw [HS2.out]⟩
                case measure => simp [intOf]; omega
              · have z1 : (0 : Int) < ((y1 + 1 : Nat) : Int) := by omega
                rcases y2 with _ | y2
                · have HS2 := Lib.hid (show cntB (k + 1) (bothB la lb) = cntB k (bothB la lb) by rw [HS.out, HBO.out, Bool.and_comm]; rfl)
                  go_wp2_with fail
                  refine HA1.out.mono ?_
                  rintro e w7 ⟨rfl, rfl⟩
                  go_wp2_with fail
                  refine HA2.out.mono ?_
                  rintro e w7 ⟨rfl, rfl⟩
                  go_wp2
                  go_round
                  case rel => exact ⟨k + 1, by omega, by go_num, by rw [HS2.out]⟩
                  case measure => simp [intOf]; omega
                · have z2 : (0 : Int) < ((y2 + 1 : Nat) : Int) := by omega
                  have HS2 := Lib.hid (show cntB (k + 1) (bothB la lb) = cntB k (bothB la lb) + 1 by rw [HS.out, HBO.out, decide_eq_true (Nat.succ_pos y1), decide_eq_true (Nat.succ_pos y2)]; rfl)
                  go_wp2_with fail
                  refine HA1.out.mono ?_
                  rintro e w7 ⟨rfl, rfl⟩
                  go_wp2_with fail
                  refine HA2.out.mono ?_
                  rintro e w7 ⟨rfl, rfl⟩
                  go_wp2
                  go_round
                  case rel => exact ⟨k + 1, by omega, by go_num, by rw [HS2.out]; go_num⟩
                  case measure => simp [intOf]; omega
            · have HK := Lib.hid (show k = M by omega)
              have hltm : ¬ ((k : Int) < (M : Int)) := by omega
              go_wp2
              go_ret2
              exact ⟨by rw [HMA.out, HMB.out, ← HK.out]; rfl, hw4⟩
        · rw [hq] at hMB
          have HB := Lib.hid hMB
          have HN := Lib.hid (meetsA_no hMB)
          clear hMB
          go_wp2
          go_ret2
          exact ⟨by rw [HN.out, HB.out]; rfl, hw4⟩
      · rw [hkj] at hMB
        have HB := Lib.hid (show meetsB g (k : Nat) (j : Nat) = false from hMB)
        have HN := Lib.hid (meetsA_no hMB)
        clear hMB
        go_wp2
        go_ret2
        exact ⟨by rw [HN.out, HB.out]; rfl, hw4⟩
/-! ### the longest beam -/
noncomputable def bestL (g : List ByteArray) : Nat → Nat × Nat
  | 0 => (0, 0)
  | p + 1 => if (bestL g p).2 < lenA g p then (p, lenA g p) else bestL g p
noncomputable def bestP (g : List ByteArray) : Nat := if gridB g then (bestL g (portsN g)).1 else 0
noncomputable def bestN (g : List ByteArray) : Nat := if gridB g then (bestL g (portsN g)).2 else 0
theorem bestL_le (g : List ByteArray) (k : Nat) : (bestL g k).1 ≤ k ∧ (bestL g k).2 ≤ 100 := by
  induction k with
  | zero => exact ⟨Nat.le_refl _, Nat.zero_le _⟩
  | succ k ih =>
    unfold bestL
    split
    · exact ⟨Nat.le_succ _, wayA_len g k⟩
    · exact ⟨by omega, ih.2⟩
set_option maxHeartbeats 800000 in
theorem iBeamLongest_any (A : Option Addr) (c : Nat) (g : List ByteArray) (w : World) (hr : Rd w w.heap.size A (sv g)) (hm : g.length ≤ maxLen) (hs : ∀ s ∈ g, s.size ≤ maxLen) :
    Calls Try.prog 25 #[.slice A g.length c] w fun e w' => e = .returned (.tuple #[.int .i64 (bestP g : Nat), .int .i64 (bestN g : Nat), .bool (gridB g)]) ∧ Below w.heap.size w w' := by
  have hG := iGridIn_any A c g w _ hr hm hs
  cases hg : gridB g
  · rw [hg] at hG
    have HG := Lib.hid hG
    have HN := Lib.hid (show bestP g = 0 ∧ bestN g = 0 by unfold bestP bestN; rw [hg]; exact ⟨rfl, rfl⟩)
    clear hG hg hr hm hs
    go_enter Try.func25, Try.ntmps25
    go_wp2_with fail
    refine HG.out.mono ?_
    rintro e w' ⟨rfl, rfl⟩
    go_wp2
    go_ret3
    exact ⟨by rw [HN.out.1, HN.out.2]; rfl, Below.refl _ _⟩
  · rw [hg] at hG
    have HP := Lib.hid (portMany_any A c g w _ hr hg)
    have HG := Lib.hid hG
    have HN := Lib.hid (show bestP g = (bestL g (portsN g)).1 ∧ bestN g = (bestL g (portsN g)).2 by unfold bestP bestN; rw [hg]; exact ⟨rfl, rfl⟩)
    have HL := Lib.hid (fun (p : Nat) (w : World) (hr : Rd w w.heap.size A (sv g)) => iBeamLength_any A c g p w hr hm hs)
    have HR := Lib.hid hr
    have hP := ports_20 hg
    clear hG hg hr hm hs
    go_enter Try.func25, Try.ntmps25
    go_wp2_with fail
    refine HG.out.mono ?_
    rintro e w' ⟨rfl, rfl⟩
    go_wp2_with fail
    refine HP.out.mono ?_
    rintro e w' ⟨rfl, rfl⟩
    clear HG HP
    generalize portsN g = P at *
    go_wp2
    go_loopw [5, 6, 15] (fun b n i wr => ∃ (k : Nat), k ≤ P ∧ i = .int .i64 k ∧ b = .int .i64 ((bestL g k).1 : Nat) ∧ n = .int .i64 ((bestL g k).2 : Nat) ∧ Hid (Below w.heap.size w wr)) (fun _ _ i _ => P - (intOf i).toNat)
    case atStart => exact ⟨0, Nat.zero_le _, rfl, rfl, rfl, Below.refl _ _⟩
    case round =>
      obtain ⟨k, hk, rfl, rfl, rfl, HB⟩ := hrel
      obtain ⟨hb1, hb2⟩ := bestL_le g k
      by_cases hlt : k < P
      · have HLK := Lib.hid (HL.out k wr (HR.out.later HB.out))
        have HS := Lib.hid (show bestL g (k + 1) = if (bestL g k).2 < lenA g k then (k, lenA g k) else bestL g k from rfl)
        generalize lenA g k = n at *
        generalize hx : (bestL g k).1 = x at *
        generalize hy : (bestL g k).2 = y at *
        have HX := Lib.hid hx
        clear hx
        have HY := Lib.hid hy
        clear hy
        by_cases hc : y < n
        · have HS1 := Lib.hid (show bestL g (k + 1) = (k, n) by rw [HS.out, if_pos hc])
          have hci : (y : Int) < (n : Int) := by omega
          go_wp2_with fail
          refine HLK.out.mono ?_
          rintro e w2 ⟨rfl, hb2⟩
          go_wp2
          go_roundw
          case rel => exact ⟨k + 1, by omega, by go_num, by rw [HS1.out], by rw [HS1.out], below_next HB.out hb2⟩
          case measure => simp [intOf]; omega
        · have hci : decide ((y : Int) < (n : Int)) = false := decide_eq_false (by omega)
          have HS1 := Lib.hid (show bestL g (k + 1) = bestL g k by rw [HS.out, if_neg hc])
          go_wp2_with fail
          refine HLK.out.mono ?_
          rintro e w2 ⟨rfl, hb2⟩
          go_wp2
          go_roundw
          case rel => exact ⟨k + 1, by omega, by go_num, by rw [HS1.out, HX.out], by rw [HS1.out, HY.out], below_next HB.out hb2⟩
          case measure => simp [intOf]; omega
      · have HK := Lib.hid (show k = P by omega)
        go_wp2
        go_ret3
        exact ⟨by rw [HN.out.1, HN.out.2, ← HK.out]; rfl, HB.out⟩
set_option maxHeartbeats 800000 in
theorem sBeamLongest_any (A : Option Addr) (c : Nat) (g : List ByteArray) (w : World) (hr : Rd w w.heap.size A (sv g)) (hm : g.length ≤ maxLen) (hs : ∀ s ∈ g, s.size ≤ maxLen) :
    Calls Try.prog 26 #[.slice A g.length c] w fun e w' => e = .returned (.tuple #[.int .i64 (bestP g : Nat), .int .i64 (bestN g : Nat), .bool (gridB g)]) ∧ Below w.heap.size w w' := by
  have hG := sGridIn_any A c g w _ hr hm hs
  cases hg : gridB g
  · rw [hg] at hG
    have HG := Lib.hid hG
    have HN := Lib.hid (show bestP g = 0 ∧ bestN g = 0 by unfold bestP bestN; rw [hg]; exact ⟨rfl, rfl⟩)
    clear hG hg hr hm hs
    go_enter Try.func26, Try.ntmps26
    go_wp2_with fail
    refine HG.out.mono ?_
    rintro e w' ⟨rfl, hd⟩
    go_wp2
    go_ret3
    exact ⟨by rw [HN.out.1, HN.out.2]; rfl, hd.below _⟩
  · rw [hg] at hG
    have HG := Lib.hid hG
    have HN := Lib.hid (show bestP g = (bestL g (portsN g)).1 ∧ bestN g = (bestL g (portsN g)).2 by unfold bestP bestN; rw [hg]; exact ⟨rfl, rfl⟩)
    have hL : ∀ (p : Nat) (w : World), p < portsN g → Rd w w.heap.size A (sv g) → Calls Try.prog 54 #[.slice A g.length c, .int .i64 p] w (WayPost (fld g) ((fld g).enter p) (lenA g p) (endB (fld g) p) w) := fun p w hp hr => by
      have hgv : givenB g (p : Nat) = true := givenB_iff.2 ⟨hg, by omega, by omega⟩
      obtain ⟨he, hN⟩ := ends_B hg hp
      have e1 : lenA g p = lenB (fld g) p + 1 := by unfold lenA; rw [wayA_yes hgv, Fd.way_length]
      rw [e1]
      exact l2Way_any A c g p _ _ w hr hg hp he hN
    have HL := Lib.hid hL
    have HR := Lib.hid hr
    obtain ⟨gl1, gl2⟩ := grid_len hg
    obtain ⟨gw1, gw2⟩ := grid_width hg
    obtain ⟨b, off, rfl, hbb, _⟩ := hr.at_ (sv_get g 0 (by omega))
    obtain ⟨s0, hc0, hz0⟩ : ∃ s0 : ByteArray, w.cell? ⟨b, off, none⟩ = some (.string s0) ∧ s0.size = width g := ⟨g[0], by have := hr.cell (sv_get g 0 (by omega)); rw [Nat.add_zero] at this; exact this, grid_row hg 0 (by omega)⟩
    have hz5 : s0.size ≤ 5 := by omega
    have hpos : 0 < g.length := by omega
    have HPP := Lib.hid (show 2 * ((g.length : Int) + (s0.size : Int)) = (portsN g : Nat) by unfold portsN; omega)
    have HC := Lib.hid hc0
    have hP := ports_20 hg
    clear hG hg hr hm hs hL hc0 hz0 gw1 gw2
    go_enter Try.func26, Try.ntmps26
    go_wp2_with fail
    refine HG.out.mono ?_
    rintro e w1 ⟨rfl, hd⟩
    have HD := Lib.hid (hd.below w.heap.size)
    clear HG hd
    generalize portsN g = P at *
    go_wp2
    go_loopw [5, 6, 7] (fun b n i wr => ∃ (k : Nat), k ≤ P ∧ i = .int .i64 k ∧ b = .int .i64 ((bestL g k).1 : Nat) ∧ n = .int .i64 ((bestL g k).2 : Nat) ∧ Hid (Below w.heap.size w wr)) (fun _ _ i _ => P - (intOf i).toNat)
    case atStart => exact ⟨0, Nat.zero_le _, rfl, rfl, rfl, HD.out⟩
    case round =>
      obtain ⟨k, hk, rfl, rfl, rfl, HB⟩ := hrel
      obtain ⟨hb1, hb2⟩ := bestL_le g k
      have hc1 : wr.cell? ⟨b, off, none⟩ = some (.string s0) := by rw [HB.out.cell hbb]; exact HC.out
      have hps := HPP.out
      by_cases hlt : k < P
      · have HLK := Lib.hid (HL.out k wr hlt (HR.out.later HB.out))
        have HS := Lib.hid (show bestL g (k + 1) = if (bestL g k).2 < lenA g k then (k, lenA g k) else bestL g k from rfl)
        generalize lenA g k = n at *
        generalize hx : (bestL g k).1 = x at *
        generalize hy : (bestL g k).2 = y at *
        have HX := Lib.hid hx
        clear hx
        have HY := Lib.hid hy
        clear hy
        have hlti : (k : Int) < 2 * ((g.length : Int) + (s0.size : Int)) := by omega
        clear hps
        by_cases hc : y < n
        · have HS1 := Lib.hid (show bestL g (k + 1) = (k, n) by rw [HS.out, if_pos hc])
          have hci : (y : Int) < (n : Int) := by omega
          go_wp2_with fail
          refine (l2Ports_any g.length s0.size gl2 hz5 _).mono ?_
          rintro e w' ⟨rfl, rfl⟩
          go_wp2_with fail
          refine HLK.out.mono ?_
          rintro e w2 ⟨A1, c1, A2, c2, rfl, ho1, ho2, hb2⟩
          clear ho1 ho2
          go_wp2
          go_roundw
          case rel => exact ⟨k + 1, by omega, by go_num, by rw [HS1.out], by rw [HS1.out], below_next HB.out hb2⟩
          case measure => simp [intOf]; omega
        · have HS1 := Lib.hid (show bestL g (k + 1) = bestL g k by rw [HS.out, if_neg hc])
          go_wp2_with fail
          refine (l2Ports_any g.length s0.size gl2 hz5 _).mono ?_
          rintro e w' ⟨rfl, rfl⟩
          go_wp2_with fail
          refine HLK.out.mono ?_
          rintro e w2 ⟨A1, c1, A2, c2, rfl, ho1, ho2, hb2⟩
          clear ho1 ho2
          go_wp2
          go_roundw
          case rel => exact ⟨k + 1, by omega, by go_num, by rw [HS1.out, HX.out], by rw [HS1.out, HY.out], below_next HB.out hb2⟩
          case measure => simp [intOf]; omega
      · have HK := Lib.hid (show k = P by omega)
        have hlti : ¬ ((k : Int) < 2 * ((g.length : Int) + (s0.size : Int))) := by omega
        clear hps
        go_wp2_with fail
        refine (l2Ports_any g.length s0.size gl2 hz5 _).mono ?_
        rintro e w' ⟨rfl, rfl⟩
        go_wp2
        go_ret3
        exact ⟨by rw [HN.out.1, HN.out.2, ← HK.out]; rfl, HB.out⟩
end Go.Proofs.Ytfiaidphcecnhaa
