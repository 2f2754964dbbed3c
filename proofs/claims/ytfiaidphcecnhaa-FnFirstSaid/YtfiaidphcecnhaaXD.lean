/-
  CONTRACTS OF THE DRAWS: a grid and a port.
-/
import Derived.Test.YtfiaidphcecnhaaX
import Derived.Test.YtfiaidphcecnhaaBA
namespace Go.Proofs.Ytfiaidphcecnhaa
open Go.RowKit

/-- a grid and a number have been drawn -/
def DrawGI (w : World) (e : Ending) (w' : World) : Prop :=
  ∃ (g : List ByteArray) (A : Option Addr) (c : Nat) (n : Int), e = .returned (.tuple #[.slice A g.length c, .int .i64 n]) ∧ Rd w' w'.heap.size A (sv g) ∧ (1 ≤ g.length ∧ g.length ≤ 4 ∧ ∀ s ∈ g, 1 ≤ s.size ∧ s.size ≤ 5) ∧ (-1000 ≤ n ∧ n ≤ 1000) ∧ Below w.heap.size w w' ∧ g.length ≤ c
theorem DrawGI.ret {P : Program} {f : FuncId} {args : Array Value} {w : World} (h : Calls P f args w (DrawGI w)) : Calls P f args w (DrawGI w) := h
set_option maxHeartbeats 800000 in
theorem l91Port_any (l : List UInt8) (A : Option Addr) (c : Nat) (w : World) (hl : Rd w w.heap.size A (bv l)) (hm : l.length ≤ c ∧ l.length ≤ maxLen) :
    Calls Try.prog 65 #[.slice A l.length c] w (DrawGI w) := by
  go_enter Try.func65, Try.ntmps65
  go_wp2_with fail
  refine (l6Open_any l A c w.heap.size _ hl (Nat.le_refl _) hm.1 hm.2).mono ?_
  rintro e w1 ⟨l1, A1, c1, rfl, hll, hr1, hl1, hg1⟩
  have HR1 := Lib.hid hr1
  have HL1 := Lib.hid hl1
  have HG1 := Lib.hid (show w.grownBy w1 (some w.heap.size) from ⟨hg1.os, hg1.tape, hg1.output, hg1.size, fun k hk hne => hg1.block k hk (by intro e; cases e)⟩)
  clear hl hr1 hl1 hg1
  go_wp2_with fail
  refine (l91Some_any l1 A1 c1 w.heap.size 0 w.heap.size 4 4 _ HR1.out HL1.out (Nat.le_refl _) (by omega) hll (by omega) (by omega)).mono ?_
  rintro e w2 ⟨g, A2, c2, p2, rfl, hown, hlo, hhi, hsz, hr2, hp2, hg2⟩
  have HO2 := Lib.hid (own_base hown HG1.out.size)
  have HG2 := Lib.hid (grown_trans HG1.out hg2)
  have HL2 := Lib.hid (HL1.out.grown hg2 HG1.out.size (fun g hg => by injection hg with hg; omega))
  have HR2 := Lib.hid hr2
  clear hown hr2 hg2 HG1 HL1 HR1
  obtain ⟨b, off, rfl, hbb, _⟩ := (Rd.of_own HO2.out).at_ (sv_get g 0 (by omega))
  obtain ⟨s0, hc0, hz0⟩ : ∃ s0 : ByteArray, w2.cell? ⟨b, off, none⟩ = some (.string s0) ∧ (1 ≤ s0.size ∧ s0.size ≤ 5) := ⟨g[0], by have := (Rd.of_own HO2.out).cell (sv_get g 0 (by omega)); rw [Nat.add_zero] at this; exact this, hsz _ (List.getElem_mem _)⟩
  obtain ⟨hz1, hz5⟩ := hz0
  have hpos : 0 < g.length := by omega
  have hg5 : g.length ≤ 5 := by omega
  go_wp2_with fail
  refine (l2Ports_any g.length s0.size hg5 hz5 _).mono ?_
  rintro e w' ⟨rfl, rfl⟩
  clear hc0
  obtain ⟨P, hP⟩ : ∃ P : Nat, 2 * ((g.length : Int) + (s0.size : Int)) = (P : Int) := ⟨2 * (g.length + s0.size), by omega⟩
  have hP20 : P ≤ 20 := by omega
  go_wp2_with fail
  refine (pick_any l1 A1 c1 w.heap.size p2 w.heap.size P _ HR2.out HL2.out (Nat.le_refl _) (by omega) hll (by omega) (by omega)).mono ?_
  rintro e w3 ⟨v, rfl, hv, hr3, hg3⟩
  have HO3 := Lib.hid (own_pick HO2.out HR2.out hg3 (by decide))
  have HR3 := Lib.hid hr3
  have HL3 := Lib.hid (HL2.out.grown hg3 (Nat.le_of_lt HR2.out.lt) (fun g hg => by injection hg with hg; omega))
  have HG3 := Lib.hid (grown_trans HG2.out hg3)
  have hv2 : (v : Int) ≤ 20 := by omega
  clear hr3 hg3 HL2 HG2 HO2 HR2 hv hP
  go_wp2_with fail
  refine (pick_any l1 A1 c1 w.heap.size (p2 + 1) w.heap.size 24 _ HR3.out HL3.out (Nat.le_refl _) (by omega) hll (by omega) (by omega)).mono ?_
  rintro e w4 ⟨u, rfl, hu, hr4, hg4⟩
  have HR4 := Lib.hid hr4
  have HL4 := Lib.hid (HL3.out.grown hg4 (Nat.le_of_lt HR3.out.lt) (fun g hg => by injection hg with hg; omega))
  have HG4 := Lib.hid (grown_trans HG3.out hg4)
  have HGx := Lib.hid hg4
  clear hr4 hg4 HL3 HG3
  have HO4 := Lib.hid (own_pick HO3.out HR3.out HGx.out (by decide))
  have hu2 : (u : Int) ≤ 23 := by omega
  clear HO3 HGx hu
  go_wp2_with fail
  refine (pick_any l1 A1 c1 w.heap.size (p2 + 1 + 1) w.heap.size 24 _ HR4.out HL4.out (Nat.le_refl _) (by omega) hll (by omega) (by omega)).mono ?_
  rintro e w5 ⟨x, rfl, hx, hr5, hg5⟩
  have HR5 := Lib.hid hr5
  have HL5 := Lib.hid (HL4.out.grown hg5 (Nat.le_of_lt HR4.out.lt) (fun g hg => by injection hg with hg; omega))
  have HG5 := Lib.hid (grown_trans HG4.out hg5)
  have HGx := Lib.hid hg5
  clear hr5 hg5 HL4 HG4
  have HO5 := Lib.hid (own_pick HO4.out HR4.out HGx.out (by decide))
  have hx2 : (x : Int) ≤ 23 := by omega
  clear HO4 HGx hx
  have HB5 := Lib.hid ((Below.refl w.heap.size w).grown HG5.out (Nat.le_refl _) (fun k hk => by injection hk with hk; omega))
  go_wp2
  go_ret2
  exact ⟨g, _, c2, _, rfl, Rd.of_own HO5.out, ⟨hlo, hhi, fun s hs => hsz s hs⟩, ⟨by omega, by omega⟩, HB5.out, (own_cap HO5.out).1⟩
theorem DrawBeamLength_any (l : List UInt8) (A : Option Addr) (c : Nat) (w : World) (hl : Rd w w.heap.size A (bv l)) (hm : l.length ≤ c ∧ l.length ≤ maxLen) :
    Calls Try.prog 30 #[.slice A l.length c] w (DrawGI w) := by
  go_enter Try.func30, Try.ntmps30
  go_wp2_with fail
  refine (l91Port_any l A c w hl hm).mono ?_
  rintro e w2 ⟨g, A2, c2, n, rfl, hg, hz, hn, hb, hc⟩
  have HG := Lib.hid hg
  clear hg
  go_wp2
  go_ret2
  exact ⟨g, A2, c2, n, rfl, HG.out, hz, hn, hb, hc⟩
theorem DrawBeamTurns_any (l : List UInt8) (A : Option Addr) (c : Nat) (w : World) (hl : Rd w w.heap.size A (bv l)) (hm : l.length ≤ c ∧ l.length ≤ maxLen) :
    Calls Try.prog 41 #[.slice A l.length c] w (DrawGI w) := by
  go_enter Try.func41, Try.ntmps41
  go_wp2_with fail
  refine (l91Port_any l A c w hl hm).mono ?_
  rintro e w2 ⟨g, A2, c2, n, rfl, hg, hz, hn, hb, hc⟩
  have HG := Lib.hid hg
  clear hg
  go_wp2
  go_ret2
  exact ⟨g, A2, c2, n, rfl, HG.out, hz, hn, hb, hc⟩
theorem DrawBeamTwice_any (l : List UInt8) (A : Option Addr) (c : Nat) (w : World) (hl : Rd w w.heap.size A (bv l)) (hm : l.length ≤ c ∧ l.length ≤ maxLen) :
    Calls Try.prog 45 #[.slice A l.length c] w (DrawGI w) := by
  go_enter Try.func45, Try.ntmps45
  go_wp2_with fail
  refine (l91Port_any l A c w hl hm).mono ?_
  rintro e w2 ⟨g, A2, c2, n, rfl, hg, hz, hn, hb, hc⟩
  have HG := Lib.hid hg
  clear hg
  go_wp2
  go_ret2
  exact ⟨g, A2, c2, n, rfl, HG.out, hz, hn, hb, hc⟩
theorem DrawBeamSides_any (l : List UInt8) (A : Option Addr) (c : Nat) (w : World) (hl : Rd w w.heap.size A (bv l)) (hm : l.length ≤ c ∧ l.length ≤ maxLen) :
    Calls Try.prog 34 #[.slice A l.length c] w (DrawGI w) := by
  go_enter Try.func34, Try.ntmps34
  go_wp2_with fail
  refine (l91Port_any l A c w hl hm).mono ?_
  rintro e w2 ⟨g, A2, c2, n, rfl, hg, hz, hn, hb, hc⟩
  have HG := Lib.hid hg
  clear hg
  go_wp2
  go_ret2
  exact ⟨g, A2, c2, n, rfl, HG.out, hz, hn, hb, hc⟩
theorem DrawBeamFirst_any (l : List UInt8) (A : Option Addr) (c : Nat) (w : World) (hl : Rd w w.heap.size A (bv l)) (hm : l.length ≤ c ∧ l.length ≤ maxLen) :
    Calls Try.prog 37 #[.slice A l.length c] w (DrawGI w) := by
  go_enter Try.func37, Try.ntmps37
  go_wp2_with fail
  refine (l91Port_any l A c w hl hm).mono ?_
  rintro e w2 ⟨g, A2, c2, n, rfl, hg, hz, hn, hb, hc⟩
  have HG := Lib.hid hg
  clear hg
  go_wp2
  go_ret2
  exact ⟨g, A2, c2, n, rfl, HG.out, hz, hn, hb, hc⟩
end Go.Proofs.Ytfiaidphcecnhaa
