/-
  CONTRACTS: BeamMeets, BeamLongest of the program and of the reference.
-/
import Derived.Test.YtfiaidphcecnhaaBH
namespace Go.Proofs.Ytfiaidphcecnhaa
open Go.RowKit

noncomputable def meetsB (g : List ByteArray) (p q : Int) : Bool := givenB g p && givenB g q && !(p == q) && !((endA g p : Int) == q)
def bothB (a b : List Nat) (c : Nat) : Bool := decide (0 < often a c) && decide (0 < often b c)
noncomputable def meetsA (g : List ByteArray) (p q : Int) : Nat := if meetsB g p q then cntB (cellsN g) (bothB (wayA g p) (wayA g q)) else 0
theorem meetsA_no {g : List ByteArray} {p q : Int} (h : meetsB g p q = false) : meetsA g p q = 0 := by unfold meetsA; rw [h]; rfl
theorem dec_pos (n : Nat) : decide ((0 : Int) < (n : Int)) = decide (0 < n) := by rw [Bool.eq_iff_iff, decide_eq_true_iff, decide_eq_true_iff]; omega
theorem meets1_any (b : UInt8) (w : World) : Calls Try.prog 74 #[.int .u8 b.toNat] w fun e w' => e = .returned (.bool true) ∧ w = w' := by
  go_enter Try.func74, Try.ntmps74
  go_wp2
  go_ret
  exact ⟨rfl, rfl⟩
set_option maxHeartbeats 1600000 in
theorem common_any (A : Option Addr) (c : Nat) (g : List ByteArray) (p q : Int) (w : World) (hr : Rd w w.heap.size A (sv g)) (hm : g.length ≤ maxLen) (hs : ∀ s ∈ g, s.size ≤ maxLen) :
    Calls Try.prog 73 #[.slice A g.length c, .int .i64 p, .int .i64 q, .func (.func 74) #[] #[]] w fun e w' => e = .returned (.tuple #[.int .i64 (meetsA g p q : Nat), .bool (meetsB g p q)]) ∧ Below w.heap.size w w' := by
  have hP := portOk_any A c g p w _ hr hm hs
  have hQ := portOk_any A c g q w _ hr hm hs
  have hen := fun (args : Array Value) (w : World) => call_enter Try.func74 (by kernel_rfl) rfl args w
  cases hb : givenB g p
  · rw [hb] at hP
    have HP := Lib.hid hP
    have hB : meetsB g p q = false := by unfold meetsB; rw [hb]; rfl
    have HB := Lib.hid hB
    have HN := Lib.hid (meetsA_no hB)
    clear hP hQ hb hr hm hs hB
    go_enter Try.func73, Try.ntmps73
    go_wp2_with fail
    refine HP.out.mono ?_
    rintro e w' ⟨rfl, rfl⟩
    go_wp2
    go_ret2
    exact ⟨by rw [HN.out, HB.out]; rfl, Below.refl _ _⟩
  · rw [hb] at hP
    cases hb2 : givenB g q
    · rw [hb2] at hQ
      have HP := Lib.hid hP
      have HQ := Lib.hid hQ
      have hB : meetsB g p q = false := by unfold meetsB; rw [hb, hb2]; rfl
      have HB := Lib.hid hB
      have HN := Lib.hid (meetsA_no hB)
      clear hP hQ hb hb2 hr hm hs hB
      go_enter Try.func73, Try.ntmps73
      go_wp2_with fail
      refine HP.out.mono ?_
      rintro e w' ⟨rfl, rfl⟩
      go_wp2_with fail
      refine HQ.out.mono ?_
      rintro e w' ⟨rfl, rfl⟩
      go_wp2
      go_ret2
      exact ⟨by rw [HN.out, HB.out]; rfl, Below.refl _ _⟩
    · rw [hb2] at hQ
      obtain ⟨k, rfl, hk, hg⟩ := given_nat hb
      obtain ⟨j, rfl, hj, _⟩ := given_nat hb2
      by_cases hkj : k = j
      · have HP := Lib.hid hP
        have HQ := Lib.hid hQ
        have hB : meetsB g (k : Nat) (j : Nat) = false := by unfold meetsB; rw [hb, hb2, int_beq_yes hkj]; rfl
        have HB := Lib.hid hB
        have HN := Lib.hid (meetsA_no hB)
        have hbe := int_beq_yes hkj
        clear hP hQ hb hb2 hr hm hs hB hkj
        go_enter Try.func73, Try.ntmps73
        go_wp2_with fail
        refine HP.out.mono ?_
        rintro e w' ⟨rfl, rfl⟩
        go_wp2_with fail
        refine HQ.out.mono ?_
        rintro e w' ⟨rfl, rfl⟩
        go_wp2
        go_ret2
        exact ⟨by rw [HN.out, HB.out]; rfl, Below.refl _ _⟩
      · obtain ⟨he, hN⟩ := ends_B hg hk
        obtain ⟨he2, hN2⟩ := ends_B hg hj
        have HP := Lib.hid hP
        have HQ := Lib.hid hQ
        have HB1 := Lib.hid (beam_any A c g k _ _ w hr hg hk he hN)
        have HB2 := Lib.hid (fun w hr => beam_any A c g j _ _ w hr hg hj he2 hN2)
        have hbe := int_beq_no hkj
        have HR := Lib.hid hr
        have HG := Lib.hid hg
        have HE := Lib.hid (endA_yes hb)
        have HW1 := Lib.hid (wayA_yes_iv hb)
        have HW2 := Lib.hid (wayA_yes_iv hb2)
        have HL1 := Lib.hid (wayA_yes_len hb)
        have HL2 := Lib.hid (wayA_yes_len hb2)
        have hMB : meetsB g (k : Nat) (j : Nat) = !((endA g (k : Nat) : Int) == (j : Int)) := by unfold meetsB; rw [hb, hb2, hbe]; rfl
        clear hP hQ hb hb2 hr hm hs he he2 hg
        go_enter Try.func73, Try.ntmps73
        go_wp2_with fail
        refine HP.out.mono ?_
        rintro e w' ⟨rfl, rfl⟩
        go_wp2_with fail
        refine HQ.out.mono ?_
        rintro e w' ⟨rfl, rfl⟩
        clear HP HQ
        go_wp2_with fail
        refine HB1.out.mono ?_
        rintro e w1 ⟨A1, c1, rfl, ho1, hb1⟩
        have hr1 := HR.out.later hb1
        have hs1 := rd_own2 ho1
        have HBB := Lib.hid (HB2.out _ hr1)
        clear ho1 HB1 HB2 HR
        go_wp2_with fail
        refine HBB.out.mono ?_
        rintro e w2 ⟨A2, c2, rfl, ho2, hb2⟩
        have hr2 := hr1.later hb2
        have hs2 := hs1.later hb2
        have ht2 := rd_own2 ho2
        have hw2 := below_next hb1 hb2
        rw [← HE.out]
        clear ho2 HBB hr1 hs1 hb1 hb2
        cases hq : ((endA g (k : Nat) : Int) == (j : Int))
        · rw [hq] at hMB
          have HMA := Lib.hid (show meetsA g (k : Nat) (j : Nat) = cntB (cellsN g) (bothB (wayA g (k : Nat)) (wayA g (j : Nat))) by unfold meetsA; rw [hMB]; rfl)
          have HMB := Lib.hid hMB
          have hM := cells_25 HG.out
          have HI1 := Lib.hid (fun x (h : x ∈ wayA g (k : Nat)) => (way_mem h).2)
          have HI2 := Lib.hid (fun x (h : x ∈ wayA g (j : Nat)) => (way_mem h).2)
          have hl1 := wayA_len g (k : Nat)
          have hl2 := wayA_len g (j : Nat)
          rw [ni_len100] at HL1 HL2
          have HC1 := Lib.hid (cellsOf_any A1 c1 _ (fld g) _ w2 hs2 (show lenB (fld g) k + 1 ≤ 200 by omega))
          clear hMB
          go_wp2_with fail
          refine HC1.out.mono ?_
          rintro e w3 ⟨A3, c3, rfl, ho3, hb3⟩
          rw [HW1.out] at ho3
          have ht3 := ht2.later hb3
          have hr3 := hr2.later hb3
          have hw3 := below_next hw2 hb3
          have HT1 := Lib.hid (timesIn_any A A3 c c3 g (wayA g (k : Nat)) w3 hr3 HG.out (Rd.of_own ho3) HI1.out (by omega))
          rw [HL1.out] at HT1
          clear ho3 HC1 hs2 ht2 hr2 hb3 hw2
          go_wp2_with fail
          refine HT1.out.mono ?_
          rintro e w4 ⟨A4, c4, rfl, ho4, hb4⟩
          have ht4 := ht3.later hb4
          have hr4 := hr3.later hb4
          have hx4 := Rd.of_own ho4
          have hw4 := below_next hw3 hb4
          have HC2 := Lib.hid (cellsOf_any A2 c2 _ (fld g) _ w4 ht4 (show lenB (fld g) j + 1 ≤ 200 by omega))
          clear ho4 HT1 ht3 hr3 hb4 hw3
          go_wp2_with fail
          refine HC2.out.mono ?_
          rintro e w5 ⟨A5, c5, rfl, ho5, hb5⟩
          rw [HW2.out] at ho5
          have hr5 := hr4.later hb5
          have hx5 := hx4.later hb5
          have hw5 := below_next hw4 hb5
          have HT2 := Lib.hid (timesIn_any A A5 c c5 g (wayA g (j : Nat)) w5 hr5 HG.out (Rd.of_own ho5) HI2.out (by omega))
          rw [HL2.out] at HT2
          clear ho5 HC2 hr4 hx4 hb5 hw4 ht4
          go_wp2_with fail
          refine HT2.out.mono ?_
          rintro e w6 ⟨A6, c6, rfl, ho6, hb6⟩
          have HR6 := Lib.hid (hr5.later hb6)
          have HX6 := Lib.hid (hx5.later hb6)
          have HY6 := Lib.hid (Rd.of_own ho6)
          have HW6 := Lib.hid (below_next hw5 hb6)
          clear ho6 HT2 hr5 hx5 hb6 hw5
          have HM := Lib.hid (show cellsN g = cellsN g from rfl)
          obtain ⟨M, hMM⟩ : ∃ M, cellsN g = M := ⟨_, rfl⟩
          rw [hMM] at HMA HX6 HY6 hM ⊢
          have HMM := Lib.hid hMM
          clear hMM HI1 HI2 HL1 HL2 HW1 HW2 HE
          generalize wayA g (k : Nat) = la at *
          generalize wayA g (j : Nat) = lb at *
          go_wp2
          go_loopw [16, 58] (fun t i wr => ∃ (k : Nat), k ≤ M ∧ i = .int .i64 k ∧ t = .int .i64 (cntB k (bothB la lb) : Nat) ∧ Hid (Dr w6 wr)) (fun _ i _ => M - (intOf i).toNat)
          case atStart => exact ⟨0, Nat.zero_le _, rfl, rfl, Dr.refl _⟩
          case round =>
            obtain ⟨k, hk, rfl, rfl, HD⟩ := hrel
            have hle := cntB_le k (bothB la lb)
            by_cases hlt : k < M
            · have g1 := niv_get (cnts M la) k (by rw [cnts_length]; exact hlt)
              rw [cnts_get M la k hlt] at g1
              have g2 := niv_get (cnts M lb) k (by rw [cnts_length]; exact hlt)
              rw [cnts_get M lb k hlt] at g2
              obtain ⟨b1, o1, rfl, hb1, x1⟩ := (HX6.out.below (HD.out.below _)).at_ g1
              obtain ⟨b2, o2, rfl, hb2, x2⟩ := (HY6.out.below (HD.out.below _)).at_ g2
              have HLA := Lib.hid (letterAt_any A c g k wr _ (HR6.out.below (HD.out.below _)) HG.out (by rw [HMM.out]; exact hlt))
              have HS := Lib.hid (cntB_succ k (bothB la lb))
              have HBO := Lib.hid (show bothB la lb k = (decide (0 < often la k) && decide (0 < often lb k)) from rfl)
              generalize often la k = y1 at *
              generalize often lb k = y2 at *
              clear g1 g2
              rcases y1 with _ | y1
              · have HS2 := Lib.hid (show cntB (k + 1) (bothB la lb) = cntB k (bothB la lb) by rw [HS.out, HBO.out]; rfl)
                go_wp2
                go_roundw
                case rel => exact ⟨k + 1, by omega, by go_num, by rw [HS2.out], HD.out⟩
                case measure => simp [intOf]; omega
              · have z1 : (0 : Int) < ((y1 + 1 : Nat) : Int) := by omega
                rcases y2 with _ | y2
                · have HS2 := Lib.hid (show cntB (k + 1) (bothB la lb) = cntB k (bothB la lb) by rw [HS.out, HBO.out, Bool.and_comm]; rfl)
                  go_wp2
                  go_roundw
                  case rel => exact ⟨k + 1, by omega, by go_num, by rw [HS2.out], HD.out⟩
                  case measure => simp [intOf]; omega
                · have z2 : (0 : Int) < ((y2 + 1 : Nat) : Int) := by omega
                  have HS2 := Lib.hid (show cntB (k + 1) (bothB la lb) = cntB k (bothB la lb) + 1 by rw [HS.out, HBO.out, decide_eq_true (Nat.succ_pos y1), decide_eq_true (Nat.succ_pos y2)]; rfl)
                  go_wp2_with fail
                  refine HLA.out.mono ?_
                  rintro e w7 ⟨rfl, hd7⟩
                  go_wp2_with fail
                  refine (meets1_any _ _).mono ?_
                  rintro e w8 ⟨rfl, rfl⟩
                  go_wp2
                  go_roundw
                  case rel => exact ⟨k + 1, by omega, by go_num, by rw [HS2.out]; go_num, HD.out.trans hd7⟩
                  case measure => simp [intOf]; omega
            · have HK := Lib.hid (show k = M by omega)
              go_wp2
              go_ret2
              exact ⟨by rw [HMA.out, HMB.out, ← HK.out]; rfl, below_next HW6.out (HD.out.below _)⟩
        · rw [hq] at hMB
          have HB := Lib.hid hMB
          have HN := Lib.hid (meetsA_no hMB)
          clear hMB
          go_wp2
          go_ret2
          exact ⟨by rw [HN.out, HB.out]; rfl, hw2⟩
theorem iBeamMeets_any (A : Option Addr) (c : Nat) (g : List ByteArray) (p q : Int) (w : World) (hr : Rd w w.heap.size A (sv g)) (hm : g.length ≤ maxLen) (hs : ∀ s ∈ g, s.size ≤ maxLen) :
    Calls Try.prog 49 #[.slice A g.length c, .int .i64 p, .int .i64 q] w fun e w' => e = .returned (.tuple #[.int .i64 (meetsA g p q : Nat), .bool (meetsB g p q)]) ∧ Below w.heap.size w w' := by
  have HC := Lib.hid (common_any A c g p q w hr hm hs)
  clear hr hm hs
  go_enter Try.func49, Try.ntmps49
  go_wp2_with fail
  refine HC.out.mono ?_
  rintro e w1 ⟨rfl, hb1⟩
  go_wp2
  go_ret2
  exact ⟨rfl, hb1⟩
end Go.Proofs.Ytfiaidphcecnhaa
