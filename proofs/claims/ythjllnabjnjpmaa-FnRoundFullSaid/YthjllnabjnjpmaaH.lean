/-
  CONTRACTS: RoundFull of the program and of the reference.
-/
import Derived.Test.YthjllnabjnjpmaaG
namespace Go.Proofs.Ythjllnabjnjpmaa
set_option maxRecDepth 100000
open Go.RowKit

def turnL (r c : Nat) : UInt8 := if (r + c) % 2 = 0 then 114 else 102
def gRoundFull (n m : Nat) : List ByteArray := mkG n m turnL
/-- what RoundFull answers -/
def roundFullR (n m : Int) : List ByteArray := if inB n 1 5 && inB m 1 5 then gRoundFull n.toNat m.toNat else []

theorem roundFull1_any (r c : Nat) (w : World) (hr : r < 100) (hc : c < 100) :
    Calls Try.prog 46 #[.int .i64 r, .int .i64 c] w fun e w' => e = .returned (.int .u8 (turnL r c).toNat) ∧ Dr w w' := by
  rcases Nat.mod_two_eq_zero_or_one (r + c) with h | h
  · have H : Hid (turnL r c = 114) := if_pos h
    have hm : ((r : Int) + (c : Int)) % 2 = 0 := by omega
    clear h
    go_enter Try.func46, Try.ntmps46
    go_wp2
    go_ret
    exact ⟨by rw [H.out]; rfl, Dr.refl _⟩
  · have H : Hid (turnL r c = 102) := if_neg (by omega)
    have hm : ((r : Int) + (c : Int)) % 2 = 1 := by omega
    clear h
    go_enter Try.func46, Try.ntmps46
    go_wp2
    go_ret
    exact ⟨by rw [H.out]; rfl, Dr.refl _⟩
set_option maxHeartbeats 400000 in
theorem iRoundFull_any (n m : Int) (w : World) :
    Calls Try.prog 16 #[.int .i64 n, .int .i64 m] w (FreshSB (roundFullR n m) (inB n 1 5 && inB m 1 5) w) := by
  cases hb : inB n 1 5 && inB m 1 5
  · have H := Lib.hid (show roundFullR n m = [] by unfold roundFullR; rw [hb]; rfl)
    have HB := Lib.hid (show sidesB n m = false from hb)
    clear hb
    go_enter Try.func16, Try.ntmps16
    go_wp2_with (go_at_call 44; refine (sidesOk_b _ _ _ HB.out _).mono ?_; rintro e w' ⟨rfl, rfl⟩)
    go_ret2
    rw [H.out]
    exact ⟨_, _, rfl, own_empty w _, below_alloc1 w _⟩
  · have hn : 1 ≤ n ∧ n ≤ 5 := inB_iff.1 (Bool.and_eq_true_iff.1 hb).1
    have hm : 1 ≤ m ∧ m ≤ 5 := inB_iff.1 (Bool.and_eq_true_iff.1 hb).2
    have H := Lib.hid (show roundFullR n m = gRoundFull n.toNat m.toNat by unfold roundFullR; rw [hb]; rfl)
    have HB := Lib.hid (show sidesB n m = true from hb)
    clear hb
    obtain ⟨n, rfl⟩ := Int.eq_ofNat_of_zero_le (show 0 ≤ n by omega)
    obtain ⟨m, rfl⟩ := Int.eq_ofNat_of_zero_le (show 0 ≤ m by omega)
    rw [Int.toNat_natCast, Int.toNat_natCast] at H
    go_enter Try.func16, Try.ntmps16
    go_wp2_with fail
    refine (sidesOk_b _ _ _ HB.out _).mono ?_
    rintro e w' ⟨rfl, rfl⟩
    go_wp2_with fail
    refine (makeGrid_any 46 #[] (Old w w.heap.size) n m turnL w w.heap.size (by omega) (by omega) (Nat.le_refl _)
      (clo_reads (call_enter Try.func46 (by kernel_rfl) rfl) (fun r c w' hr hc _ => roundFull1_any r c w' (by omega) (by omega))) (fun _ _ => rfl)).mono ?_
    intro e w1 hmade
    obtain ⟨A, c, rfl, ho, hb⟩ := made_fresh hmade (mkG_length n m turnL)
    go_wp2
    go_ret2
    rw [H.out]
    exact ⟨A, c, rfl, ho, hb⟩
set_option maxHeartbeats 1000000 in
theorem sRoundFull_any (n m : Int) (w : World) :
    Calls Try.prog 17 #[.int .i64 n, .int .i64 m] w (FreshSB (roundFullR n m) (inB n 1 5 && inB m 1 5) w) := by
  obtain ⟨i0, hi, hz0, hz1, hz2⟩ := info_parts infoStr
  obtain ⟨j0, hj, hy0, hy1, hy2⟩ := info_parts infoU8
  cases hbn : inB n 1 5
  · have H := Lib.hid (show roundFullR n m = [] by unfold roundFullR; rw [hbn]; rfl)
    have HB := Lib.hid hbn
    clear hbn
    go_enter Try.func17, Try.ntmps17
    go_wp2_with fail
    refine (l6In_b _ _ _ _ HB.out _).mono ?_
    rintro e w' ⟨rfl, rfl⟩
    go_wp2_with fail
    refine (l1None_any _).mono ?_
    rintro e w1 ⟨A, c, rfl, ho, hb⟩
    go_wp2
    go_ret2
    rw [H.out]
    exact ⟨A, c, rfl, ho, hb⟩
  · cases hbm : inB m 1 5
    · have H := Lib.hid (show roundFullR n m = [] by unfold roundFullR; rw [hbn, hbm]; rfl)
      have HB := Lib.hid hbn
      have HB2 := Lib.hid hbm
      clear hbn hbm
      go_enter Try.func17, Try.ntmps17
      go_wp2_with fail
      refine (l6In_b _ _ _ _ HB.out _).mono ?_
      rintro e w' ⟨rfl, rfl⟩
      go_wp2_with fail
      refine (l6In_b _ _ _ _ HB2.out _).mono ?_
      rintro e w' ⟨rfl, rfl⟩
      go_wp2_with fail
      refine (l1None_any _).mono ?_
      rintro e w1 ⟨A, c, rfl, ho, hb⟩
      go_wp2
      go_ret2
      rw [H.out]
      exact ⟨A, c, rfl, ho, hb⟩
    · have hn : 1 ≤ n ∧ n ≤ 5 := inB_iff.1 hbn
      have hm : 1 ≤ m ∧ m ≤ 5 := inB_iff.1 hbm
      have H := Lib.hid (show roundFullR n m = gRoundFull n.toNat m.toNat by unfold roundFullR; rw [hbn, hbm]; rfl)
      have HB := Lib.hid hbn
      have HB2 := Lib.hid hbm
      clear hbn hbm
      obtain ⟨n, rfl⟩ := Int.eq_ofNat_of_zero_le (show 0 ≤ n by omega)
      obtain ⟨m, rfl⟩ := Int.eq_ofNat_of_zero_le (show 0 ≤ m by omega)
      rw [Int.toNat_natCast, Int.toNat_natCast] at H
      go_enter Try.func17, Try.ntmps17
      go_wp2_with fail
      refine (l6In_b _ _ _ _ HB.out _).mono ?_
      rintro e w' ⟨rfl, rfl⟩
      go_wp2_with fail
      refine (l6In_b _ _ _ _ HB2.out _).mono ?_
      rintro e w' ⟨rfl, rfl⟩
      go_wp2
      go_loopw [6, 7] (fun v i wr => ∃ (r : Nat), r ≤ n ∧ i = .int .i64 r ∧ Hid (wr.ownsRow w.heap.size 9 1 v r (sv (mkG r m turnL))) ∧ Hid (Below w.heap.size w wr)) (fun _ i _ => n - (intOf i).toNat)
      case atStart => exact ⟨0, Nat.zero_le _, rfl, own_empty w _, below_alloc1 w _⟩
      case round =>
        obtain ⟨r, hr, rfl, HO, HS⟩ := hrel
        by_cases hlt : r < n
        · obtain ⟨wo, rfl⟩ : ∃ wo : World, wo = wr := ⟨_, rfl⟩
          go_wp2
          go_loopw [8, 9] (fun v i wi => ∃ (c : Nat), c ≤ m ∧ i = .int .i64 c ∧ Hid (wi.ownsRow wo.heap.size 5 1 v c (bv (rowOf c (turnL r)))) ∧ Hid (wi.ownsRow w.heap.size 9 1 u6 r (sv (mkG r m turnL))) ∧ Hid (Below w.heap.size w wi) ∧ wo.heap.size ≤ wi.heap.size) (fun _ i _ => m - (intOf i).toNat)
          case atStart => exact ⟨0, Nat.zero_le _, rfl, own_empty wo _, HO.out.alloc _, HS.out.alloc HS.out.size _, by simp⟩
          case round =>
            obtain ⟨c, hc, rfl, HR, HO2, HS2, hBi⟩ := hrel
            have hBo : w.heap.size ≤ wo.heap.size := HS.out.size
            by_cases hcl : c < m
            · rcases Nat.mod_two_eq_zero_or_one (r + c) with h2 | h2
              · have HT : Hid (turnL r c = 114) := if_pos h2
                have hm2 : (((r : Int) + (c : Int)) % 2 == 0) = true := beq_iff_eq.2 (by omega)
                clear h2
                go_wp2_with (at_builtin; refine wpList_append_own _ rfl _ _ 22 rfl (wo.heap.size) 5 j0 (.int .u8 0) 1 1 Try.underlying22 hj hy0 hy1 hy2 rfl (by decide) _ _ _ rfl ((HR.out).alloc _) ⟨(wr).heap.size, 0, none⟩ 1 1 [.int .u8 (114)] rfl rfl ?c1 ?c2 ?c3 ?c4 ?c5 ?_)
                try case c1 => exact cell_one_new _ _ _
                try case c2 => simp [Value.oneCell']
                case c3 => simp only [maxLen]; omega
                case c4 => omega
                case c5 => first | omega | (simp; omega)
                intro v' w2 hown2 hgrow2 _
                have HO3 := Lib.hid (own_kept_ne (HO2.out.alloc (.cells #[.int .u8 114] 5)) (HR.out.alloc (.cells #[.int .u8 114] 5)) (by decide) hgrow2)
                have HS3 := Lib.hid (below_grown (HS2.out.alloc HS2.out.size (.cells #[.int .u8 114] 5)) hgrow2 (fun g hg => Nat.le_trans hBo (own_ge HR.out g hg)))
                have hB3 : wo.heap.size ≤ w2.heap.size := Nat.le_trans hBi (by have := hgrow2.size; simp at this; omega)
                have HR3 := Lib.hid hown2
                clear hown2 hgrow2 HO2 HR HS2
                go_wp2
                go_roundw
                case rel => exact ⟨c + 1, by omega, by go_num, (by rw [rowOf_succ, bv_snoc, HT.out]; exact HR3.out), HO3.out, HS3.out, hB3⟩
                case measure => simp [intOf]; omega
              · have HT : Hid (turnL r c = 102) := if_neg (by omega)
                have hm2 : (((r : Int) + (c : Int)) % 2 == 0) = false := beq_eq_false_iff_ne.2 (by omega)
                clear h2
                go_wp2_with (at_builtin; refine wpList_append_own _ rfl _ _ 22 rfl (wo.heap.size) 5 j0 (.int .u8 0) 1 1 Try.underlying22 hj hy0 hy1 hy2 rfl (by decide) _ _ _ rfl ((HR.out).alloc _) ⟨(wr).heap.size, 0, none⟩ 1 1 [.int .u8 (102)] rfl rfl ?c1 ?c2 ?c3 ?c4 ?c5 ?_)
                try case c1 => exact cell_one_new _ _ _
                try case c2 => simp [Value.oneCell']
                case c3 => simp only [maxLen]; omega
                case c4 => omega
                case c5 => first | omega | (simp; omega)
                intro v' w2 hown2 hgrow2 _
                have HO3 := Lib.hid (own_kept_ne (HO2.out.alloc (.cells #[.int .u8 102] 5)) (HR.out.alloc (.cells #[.int .u8 102] 5)) (by decide) hgrow2)
                have HS3 := Lib.hid (below_grown (HS2.out.alloc HS2.out.size (.cells #[.int .u8 102] 5)) hgrow2 (fun g hg => Nat.le_trans hBo (own_ge HR.out g hg)))
                have hB3 : wo.heap.size ≤ w2.heap.size := Nat.le_trans hBi (by have := hgrow2.size; simp at this; omega)
                have HR3 := Lib.hid hown2
                clear hown2 hgrow2 HO2 HR HS2
                go_wp2
                go_roundw
                case rel => exact ⟨c + 1, by omega, by go_num, (by rw [rowOf_succ, bv_snoc, HT.out]; exact HR3.out), HO3.out, HS3.out, hB3⟩
                case measure => simp [intOf]; omega
            · have hcm : c = m := by omega
              subst hcm
              obtain ⟨A, c', rfl, hc1, hc2⟩ := own_form HR.out
              have hcv := run_bytes_text (P := Try.prog) wr 22 9 5 Try.underlying22 Try.underlying5 Try.underlying9 A c' _ _ (Rd.of_own HR.out)
              rw [rowOf_length] at hcv
              go_wp2_with (at_builtin; refine wpList_append_own _ rfl _ _ 23 rfl (w.heap.size) 9 i0 (.string ⟨#[]⟩) 1 16 Try.underlying23 hi hz0 hz1 hz2 rfl (by decide) _ _ _ rfl ((HO2.out).alloc _) ⟨(wr).heap.size, 0, none⟩ 1 1 [.string (bs (rowOf c (turnL r)))] rfl rfl ?c1 ?c2 ?c3 ?c4 ?c5 ?_)
              try case c1 => exact cell_one_new _ _ _
              try case c2 => simp [Value.oneCell']
              case c3 => simp only [maxLen]; omega
              case c4 => omega
              case c5 => first | omega | (simp; omega)
              intro v' w2 hown2 hgrow2 _
              have HS3 := Lib.hid (below_grown (HS2.out.alloc HS2.out.size (.cells #[.string (bs (rowOf c (turnL r)))] 9)) hgrow2 (fun g hg => own_ge HO2.out g hg))
              have HO3 := Lib.hid hown2
              clear hown2 hgrow2 HO2 HR HS2 hcv HO HS
              go_wp2
              go_roundw
              case rel => exact ⟨r + 1, by omega, by go_num, (by rw [mkG_succ, sv_snoc]; exact HO3.out), HS3.out⟩
              case measure => simp [intOf]; omega
        · obtain rfl : r = n := by omega
          obtain ⟨A, c, rfl, hc1, hc2⟩ := own_form HO.out
          go_wp2
          go_ret2
          rw [H.out]
          have hl : (gRoundFull r m).length = r := mkG_length _ _ _
          exact ⟨A, c, by rw [hl]; rfl, by rw [hl]; exact HO.out, HS.out⟩
end Go.Proofs.Ythjllnabjnjpmaa
