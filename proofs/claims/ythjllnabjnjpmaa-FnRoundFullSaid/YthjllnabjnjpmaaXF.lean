/-
  CONTRACTS OF THE DRAWS: grids for rounds; two numbers.
-/
import Derived.Test.YthjllnabjnjpmaaX
namespace Go.Proofs.Ythjllnabjnjpmaa
set_option maxRecDepth 100000
open Go.RowKit

/-- two numbers have been drawn -/
def DrawII (w : World) (e : Ending) (w' : World) : Prop :=
  ∃ (n m : Int), e = .returned (.tuple #[.int .i64 n, .int .i64 m]) ∧ ((-100 ≤ n ∧ n ≤ 100) ∧ (-100 ≤ m ∧ m ≤ 100)) ∧ Below w.heap.size w w'
set_option maxHeartbeats 800000 in
theorem l91Size_any (l : List UInt8) (A : Option Addr) (c k : Nat) (w : World) (hk1 : 1 ≤ k) (hk2 : k ≤ 5) (hl : Rd w w.heap.size A (bv l)) (hm : l.length ≤ c ∧ l.length ≤ maxLen) :
    Calls Try.prog 43 #[.slice A l.length c, .int .i64 k] w (DrawII w) := by
  go_enter Try.func43, Try.ntmps43
  go_wp2_with fail
  refine (l6Open_any l A c w.heap.size _ hl (Nat.le_refl _) hm.1 hm.2).mono ?_
  rintro e w1 ⟨l1, A1, c1, rfl, hll, hr1, hl1, hg1⟩
  have HR1 := Lib.hid hr1
  have HL1 := Lib.hid hl1
  have HG1 := Lib.hid (show w.grownBy w1 (some w.heap.size) from ⟨hg1.os, hg1.tape, hg1.output, hg1.size, fun k hk hne => hg1.block k hk (by intro e; cases e)⟩)
  clear hl hr1 hl1 hg1
  go_wp2_with fail
  refine (pick_any l1 A1 c1 w.heap.size 0 w.heap.size k _ HR1.out HL1.out (Nat.le_refl _) (by omega) hll (by omega) (by omega)).mono ?_
  rintro e w2 ⟨u, rfl, hu, hr2, hg2⟩
  have HR2 := Lib.hid hr2
  have HL2 := Lib.hid (HL1.out.grown hg2 (Nat.le_of_lt HR1.out.lt) (fun g hg => by injection hg with hg; omega))
  have HG2 := Lib.hid (grown_trans HG1.out hg2)
  have HGx := Lib.hid hg2
  clear hr2 hg2 HL1 HG1
  have hu2 : (u : Int) ≤ 5 := by omega
  clear HGx
  go_wp2_with fail
  refine (pick_any l1 A1 c1 w.heap.size (0 + 1) w.heap.size 24 _ HR2.out HL2.out (Nat.le_refl _) (by omega) hll (by omega) (by omega)).mono ?_
  rintro e w3 ⟨v, rfl, hv, hr3, hg3⟩
  have HR3 := Lib.hid hr3
  have HL3 := Lib.hid (HL2.out.grown hg3 (Nat.le_of_lt HR2.out.lt) (fun g hg => by injection hg with hg; omega))
  have HG3 := Lib.hid (grown_trans HG2.out hg3)
  have HGx := Lib.hid hg3
  clear hr3 hg3 HL2 HG2
  have hv2 : (v : Int) ≤ 23 := by omega
  clear HGx
  go_wp2_with fail
  refine (pick_any l1 A1 c1 w.heap.size (0 + 1 + 1) w.heap.size 24 _ HR3.out HL3.out (Nat.le_refl _) (by omega) hll (by omega) (by omega)).mono ?_
  rintro e w4 ⟨x, rfl, hx, hr4, hg4⟩
  have HR4 := Lib.hid hr4
  have HL4 := Lib.hid (HL3.out.grown hg4 (Nat.le_of_lt HR3.out.lt) (fun g hg => by injection hg with hg; omega))
  have HG4 := Lib.hid (grown_trans HG3.out hg4)
  have HGx := Lib.hid hg4
  clear hr4 hg4 HL3 HG3
  have hx2 : (x : Int) ≤ 23 := by omega
  clear HGx
  go_wp2_with fail
  refine (pick_any l1 A1 c1 w.heap.size (0 + 1 + 1 + 1) w.heap.size k _ HR4.out HL4.out (Nat.le_refl _) (by omega) hll (by omega) (by omega)).mono ?_
  rintro e w5 ⟨y, rfl, hy, hr5, hg5⟩
  have HR5 := Lib.hid hr5
  have HL5 := Lib.hid (HL4.out.grown hg5 (Nat.le_of_lt HR4.out.lt) (fun g hg => by injection hg with hg; omega))
  have HG5 := Lib.hid (grown_trans HG4.out hg5)
  have HGx := Lib.hid hg5
  clear hr5 hg5 HL4 HG4
  have hy2 : (y : Int) ≤ 5 := by omega
  have HB5 := Lib.hid ((Below.refl w.heap.size w).grown HG5.out (Nat.le_refl _) (fun k hk => by injection hk with hk; omega))
  go_wp2
  go_ret2
  exact ⟨_, _, rfl, ⟨⟨by omega, by omega⟩, ⟨by omega, by omega⟩⟩, HB5.out⟩
theorem DrawRoundFull_any (l : List UInt8) (A : Option Addr) (c : Nat) (w : World) (hl : Rd w w.heap.size A (bv l)) (hm : l.length ≤ c ∧ l.length ≤ maxLen) :
    Calls Try.prog 15 #[.slice A l.length c] w (DrawII w) := by
  go_enter Try.func15, Try.ntmps15
  go_wp2_with fail
  refine (l91Size_any l A c 5 w (by omega) (by omega) hl hm).mono ?_
  rintro e w2 ⟨n, m, rfl, hn, hb⟩
  go_wp2
  go_ret2
  exact ⟨n, m, rfl, hn, hb⟩
end Go.Proofs.Ythjllnabjnjpmaa
