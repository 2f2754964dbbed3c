/-
  CONTRACTS: RoundFull of the program and of the reference.
-/
import Derived.Test.YtmbjogjdcghacaaG
namespace Go.Proofs.Ytmbjogjdcghacaa
open Go.RowKit

def turnL (r c : Nat) : UInt8 := if (r + c) % 2 = 0 then 114 else 102
def gRoundFull (n m : Nat) : List ByteArray := mkG n m turnL
/-- what RoundFull answers -/
def roundFullR (n m : Int) : List ByteArray := if inB n 1 5 && inB m 1 5 then gRoundFull n.toNat m.toNat else []

theorem roundFull1_any (r c : Nat) (w : World) (hr : r < 100) (hc : c < 100) :
    Calls Try.prog 64 #[.int .i64 r, .int .i64 c] w fun e w' => e = .returned (.int .u8 (turnL r c).toNat) ∧ Dr w w' := by
  rcases Nat.mod_two_eq_zero_or_one (r + c) with h | h
  · have H : Hid (turnL r c = 114) := if_pos h
    have hm : ((r : Int) + (c : Int)) % 2 = 0 := by omega
    clear h
    go_enter Try.func64, Try.ntmps64
    go_wp2
    go_ret
    exact ⟨by rw [H.out]; rfl, Dr.refl _⟩
  · have H : Hid (turnL r c = 102) := if_neg (by omega)
    have hm : ((r : Int) + (c : Int)) % 2 = 1 := by omega
    clear h
    go_enter Try.func64, Try.ntmps64
    go_wp2
    go_ret
    exact ⟨by rw [H.out]; rfl, Dr.refl _⟩
set_option maxHeartbeats 400000 in
theorem iRoundFull_any (n m : Int) (w : World) :
    Calls Try.prog 38 #[.int .i64 n, .int .i64 m] w (FreshSB (roundFullR n m) (inB n 1 5 && inB m 1 5) w) := by
  cases hb : inB n 1 5 && inB m 1 5
  · have H := Lib.hid (show roundFullR n m = [] by unfold roundFullR; rw [hb]; rfl)
    have HB := Lib.hid (show sidesB n m = false from hb)
    clear hb
    go_enter Try.func38, Try.ntmps38
    go_wp2_with (go_at_call 42; refine (sidesOk_b _ _ _ HB.out _).mono ?_; rintro e w' ⟨rfl, rfl⟩)
    go_ret2
    rw [H.out]
    exact ⟨_, _, rfl, own_empty w _, below_alloc1 w _⟩
  · have hn : 1 ≤ n ∧ n ≤ 5 := inB_iff.1 (Bool.and_eq_true_iff.1 hb).1
    have hm : 1 ≤ m ∧ m ≤ 5 := inB_iff.1 (Bool.and_eq_true_iff.1 hb).2
    have H := Lib.hid (show roundFullR n m = gRoundFull n.toNat m.toNat by unfold roundFullR; rw [hb]; rfl)
    have HB := Lib.hid (show sidesB n m = true from hb)
    clear hb
    obtain ⟨n, rfl⟩ := Int.eq_ofNat_of_zero_le (show 0 ≤ n by omega)
    obtain ⟨m, rfl⟩ := Int.eq_ofNat_of_zero_le (show 0 ≤ m by omega)
    rw [Int.toNat_natCast, Int.toNat_natCast] at H
    go_enter Try.func38, Try.ntmps38
    go_wp2_with fail
    refine (sidesOk_b _ _ _ HB.out _).mono ?_
    rintro e w' ⟨rfl, rfl⟩
    go_wp2_with fail
    refine (makeGrid_any 64 #[] (Old w w.heap.size) n m turnL w w.heap.size (by omega) (by omega) (Nat.le_refl _)
      (clo_reads (call_enter Try.func64 (by kernel_rfl) rfl) (fun r c w' hr hc _ => roundFull1_any r c w' (by omega) (by omega))) (fun _ _ => rfl)).mono ?_
    intro e w1 hmade
    obtain ⟨A, c, rfl, ho, hb⟩ := made_fresh hmade (mkG_length n m turnL)
    go_wp2
    go_ret2
    rw [H.out]
    exact ⟨A, c, rfl, ho, hb⟩
end Go.Proofs.Ytmbjogjdcghacaa
