/-
  CONTRACTS OF THE DRAWS: two grids; three numbers; a grid and a number.
-/
import Derived.Test.YtjnelfgjglpchaaX
namespace Go.Proofs.Ytjnelfgjglpchaa
open Go.RowKit

/-- two grids have been drawn -/
def DrawGG (w : World) (e : Ending) (w' : World) : Prop :=
  ∃ (g h : List ByteArray) (A B : Option Addr) (c d : Nat), e = .returned (.tuple #[.slice A g.length c, .slice B h.length d]) ∧ Rd w' w'.heap.size A (sv g) ∧ Rd w' w'.heap.size B (sv h) ∧
    (1 ≤ g.length ∧ g.length ≤ 6 ∧ ∀ s ∈ g, 1 ≤ s.size ∧ s.size ≤ 7) ∧ (1 ≤ h.length ∧ h.length ≤ 6 ∧ ∀ s ∈ h, 1 ≤ s.size ∧ s.size ≤ 7) ∧ Below w.heap.size w w' ∧ g.length ≤ c ∧ h.length ≤ d
set_option maxHeartbeats 800000 in
theorem DrawGridBeside_any (l : List UInt8) (A : Option Addr) (c : Nat) (w : World) (hl : Rd w w.heap.size A (bv l)) (hm : l.length ≤ c ∧ l.length ≤ maxLen) :
    Calls Try.prog 35 #[.slice A l.length c] w (DrawGG w) := by
  go_enter Try.func35, Try.ntmps35
  go_wp2_with fail
  refine (l6Open_any l A c w.heap.size _ hl (Nat.le_refl _) hm.1 hm.2).mono ?_
  rintro e w1 ⟨l1, A1, c1, rfl, hll, hr1, hl1, hg1⟩
  have HR1 := Lib.hid hr1
  have HL1 := Lib.hid hl1
  have HG1 := Lib.hid (show w.grownBy w1 (some w.heap.size) from ⟨hg1.os, hg1.tape, hg1.output, hg1.size, fun k hk hne => hg1.block k hk (by intro e; cases e)⟩)
  clear hl hr1 hl1 hg1
  go_wp2_with fail
  refine (pick_any l1 A1 c1 w.heap.size 0 w.heap.size 4 _ HR1.out HL1.out (Nat.le_refl _) (by omega) hll (by omega) (by omega)).mono ?_
  rintro e w2 ⟨v, rfl, hv, hr2, hg2⟩
  have HR2 := Lib.hid hr2
  have HL2 := Lib.hid (HL1.out.grown hg2 (Nat.le_of_lt HR1.out.lt) (fun g hg => by injection hg with hg; omega))
  have HG2 := Lib.hid (grown_trans HG1.out hg2)
  have HGx := Lib.hid hg2
  clear hr2 hg2 HL1 HG1
  obtain ⟨n, hen⟩ : ∃ n : Nat, (1 : Int) + (v : Int) = (n : Int) := ⟨v + 1, by omega⟩
  have hn4 : 1 ≤ n ∧ n ≤ 4 := by omega
  clear hv
  go_wp2_with fail
  refine (pick_any l1 A1 c1 w.heap.size (0 + 1) w.heap.size 3 _ HR2.out HL2.out (Nat.le_refl _) (by omega) hll (by omega) (by omega)).mono ?_
  rintro e w3 ⟨u, rfl, hu, hr3, hg3⟩
  have HR3 := Lib.hid hr3
  have HL3 := Lib.hid (HL2.out.grown hg3 (Nat.le_of_lt HR2.out.lt) (fun g hg => by injection hg with hg; omega))
  have HG3 := Lib.hid (grown_trans HG2.out hg3)
  have HGx := Lib.hid hg3
  clear hr3 hg3 HL2 HG2
  obtain ⟨m, hem⟩ : ∃ m : Nat, (1 : Int) + (u : Int) = (m : Int) := ⟨u + 1, by omega⟩
  have hm3 : 1 ≤ m ∧ m ≤ 3 := by omega
  clear hu
  go_wp2_with fail
  refine (l91Of_any l1 A1 c1 w.heap.size (0 + 1 + 1) w.heap.size n m _ HR3.out HL3.out (Nat.le_refl _) (by omega) hll (by omega) (by omega)).mono ?_
  rintro e w4 ⟨g, A4, c4, p4, rfl, hown, hlo, hhi, hsz, hr4, hp4, hg4⟩
  have HO4 := Lib.hid (own_base hown HG3.out.size)
  have HG4 := Lib.hid (grown_trans HG3.out hg4)
  have HL4 := Lib.hid (HL3.out.grown hg4 (Nat.le_trans HG3.out.size (Nat.le_refl _)) (fun g hg => by injection hg with hg; omega))
  have HR4 := Lib.hid hr4
  clear hown hr4 hg4 HG3 HL3 HR3
  have hgl := Lib.hid (show g.length = n by omega)
  go_wp2_with fail
  refine (pick_any l1 A1 c1 w.heap.size p4 w.heap.size 24 _ HR4.out HL4.out (Nat.le_refl _) (by omega) hll (by omega) (by omega)).mono ?_
  rintro e w5 ⟨x, rfl, hx, hr5, hg5⟩
  have HR5 := Lib.hid hr5
  have HL5 := Lib.hid (HL4.out.grown hg5 (Nat.le_of_lt HR4.out.lt) (fun g hg => by injection hg with hg; omega))
  have HG5 := Lib.hid (grown_trans HG4.out hg5)
  have HGx := Lib.hid hg5
  clear hr5 hg5 HL4 HG4
  have HO5 := Lib.hid (own_pick HO4.out HR4.out HGx.out (by decide))
  clear HO4 HGx
  obtain ⟨n2, hen2⟩ : ∃ n2 : Nat, (n : Int) + (x : Int) / 23 = (n2 : Int) := ⟨n + x / 23, by omega⟩
  have hn5 : 1 ≤ n2 ∧ n2 ≤ 6 := by omega
  clear hx
  have HR5b := HR5
  go_wp2_with fail
  refine (pick_any l1 A1 c1 w.heap.size (p4 + 1) w.heap.size 3 _ HR5.out HL5.out (Nat.le_refl _) (by omega) hll (by omega) (by omega)).mono ?_
  rintro e w6 ⟨y, rfl, hy, hr6, hg6⟩
  have HR6 := Lib.hid hr6
  have HL6 := Lib.hid (HL5.out.grown hg6 (Nat.le_of_lt HR5.out.lt) (fun g hg => by injection hg with hg; omega))
  have HG6 := Lib.hid (grown_trans HG5.out hg6)
  have HGx := Lib.hid hg6
  clear hr6 hg6 HL5 HG5
  have HO6 := Lib.hid (own_pick HO5.out HR5b.out HGx.out (by decide))
  clear HO5 HGx HR5b
  obtain ⟨m2, hem2⟩ : ∃ m2 : Nat, (1 : Int) + (y : Int) = (m2 : Int) := ⟨y + 1, by omega⟩
  have hm5 : 1 ≤ m2 ∧ m2 ≤ 3 := by omega
  clear hy
  go_wp2_with fail
  refine (l91Of_any l1 A1 c1 w.heap.size (p4 + 1 + 1) w.heap.size n2 m2 _ HR6.out HL6.out (Nat.le_refl _) (by omega) hll (by omega) (by omega)).mono ?_
  rintro e w7 ⟨h, A7, c7, p7, rfl, hown7, hlo7, hhi7, hsz7, hr7, hp7, hg7⟩
  have HO7 := Lib.hid (own_pick HO6.out HR6.out hg7 (by decide))
  have HQ7 := Lib.hid hown7
  have hb := (Below.refl w.heap.size w).grown HG6.out (Nat.le_refl _) (fun k hk => by injection hk with hk; omega)
  have hb7 := hb.grown hg7 hb.size (fun k hk => by injection hk with hk; omega)
  have HB7 := Lib.hid hb7
  clear hown7 hr7 hg7 hb hb7 HO6 HG6 HL6 HR6
  clear hen hem hen2 hem2
  have hgm : ∀ s ∈ g, 1 ≤ s.size ∧ s.size ≤ 7 := fun s hs => by have := hsz s hs; omega
  have hhm : ∀ s ∈ h, 1 ≤ s.size ∧ s.size ≤ 7 := fun s hs => by have := hsz7 s hs; omega
  clear hsz hsz7
  go_wp2
  go_ret2
  exact ⟨g, h, A4, A7, c4, c7, rfl, Rd.of_own HO7.out, Rd.of_own HQ7.out, ⟨by omega, by omega, hgm⟩, ⟨by omega, by omega, hhm⟩, HB7.out, (own_cap HO7.out).1, (own_cap HQ7.out).1⟩
set_option maxHeartbeats 800000 in
theorem DrawGridUnder_any (l : List UInt8) (A : Option Addr) (c : Nat) (w : World) (hl : Rd w w.heap.size A (bv l)) (hm : l.length ≤ c ∧ l.length ≤ maxLen) :
    Calls Try.prog 46 #[.slice A l.length c] w (DrawGG w) := by
  go_enter Try.func46, Try.ntmps46
  go_wp2_with fail
  refine (l6Open_any l A c w.heap.size _ hl (Nat.le_refl _) hm.1 hm.2).mono ?_
  rintro e w1 ⟨l1, A1, c1, rfl, hll, hr1, hl1, hg1⟩
  have HR1 := Lib.hid hr1
  have HL1 := Lib.hid hl1
  have HG1 := Lib.hid (show w.grownBy w1 (some w.heap.size) from ⟨hg1.os, hg1.tape, hg1.output, hg1.size, fun k hk hne => hg1.block k hk (by intro e; cases e)⟩)
  clear hl hr1 hl1 hg1
  go_wp2_with fail
  refine (pick_any l1 A1 c1 w.heap.size 0 w.heap.size 4 _ HR1.out HL1.out (Nat.le_refl _) (by omega) hll (by omega) (by omega)).mono ?_
  rintro e w2 ⟨v, rfl, hv, hr2, hg2⟩
  have HR2 := Lib.hid hr2
  have HL2 := Lib.hid (HL1.out.grown hg2 (Nat.le_of_lt HR1.out.lt) (fun g hg => by injection hg with hg; omega))
  have HG2 := Lib.hid (grown_trans HG1.out hg2)
  have HGx := Lib.hid hg2
  clear hr2 hg2 HL1 HG1
  obtain ⟨m, hem⟩ : ∃ m : Nat, (1 : Int) + (v : Int) = (m : Int) := ⟨v + 1, by omega⟩
  have hm3 : 1 ≤ m ∧ m ≤ 4 := by omega
  clear hv
  go_wp2_with fail
  refine (pick_any l1 A1 c1 w.heap.size (0 + 1) w.heap.size 3 _ HR2.out HL2.out (Nat.le_refl _) (by omega) hll (by omega) (by omega)).mono ?_
  rintro e w3 ⟨u, rfl, hu, hr3, hg3⟩
  have HR3 := Lib.hid hr3
  have HL3 := Lib.hid (HL2.out.grown hg3 (Nat.le_of_lt HR2.out.lt) (fun g hg => by injection hg with hg; omega))
  have HG3 := Lib.hid (grown_trans HG2.out hg3)
  have HGx := Lib.hid hg3
  clear hr3 hg3 HL2 HG2
  obtain ⟨n, hen⟩ : ∃ n : Nat, (1 : Int) + (u : Int) = (n : Int) := ⟨u + 1, by omega⟩
  have hn4 : 1 ≤ n ∧ n ≤ 3 := by omega
  clear hu
  go_wp2_with fail
  refine (l91Of_any l1 A1 c1 w.heap.size (0 + 1 + 1) w.heap.size n m _ HR3.out HL3.out (Nat.le_refl _) (by omega) hll (by omega) (by omega)).mono ?_
  rintro e w4 ⟨g, A4, c4, p4, rfl, hown, hlo, hhi, hsz, hr4, hp4, hg4⟩
  have HO4 := Lib.hid (own_base hown HG3.out.size)
  have HG4 := Lib.hid (grown_trans HG3.out hg4)
  have HL4 := Lib.hid (HL3.out.grown hg4 (Nat.le_trans HG3.out.size (Nat.le_refl _)) (fun g hg => by injection hg with hg; omega))
  have HR4 := Lib.hid hr4
  clear hown hr4 hg4 HG3 HL3 HR3
  have hgl := Lib.hid (show g.length = n by omega)
  go_wp2_with fail
  refine (pick_any l1 A1 c1 w.heap.size p4 w.heap.size 3 _ HR4.out HL4.out (Nat.le_refl _) (by omega) hll (by omega) (by omega)).mono ?_
  rintro e w5 ⟨x, rfl, hx, hr5, hg5⟩
  have HR5 := Lib.hid hr5
  have HL5 := Lib.hid (HL4.out.grown hg5 (Nat.le_of_lt HR4.out.lt) (fun g hg => by injection hg with hg; omega))
  have HG5 := Lib.hid (grown_trans HG4.out hg5)
  have HGx := Lib.hid hg5
  clear hr5 hg5 HL4 HG4
  have HO5 := Lib.hid (own_pick HO4.out HR4.out HGx.out (by decide))
  clear HO4 HGx
  obtain ⟨n2, hen2⟩ : ∃ n2 : Nat, (1 : Int) + (x : Int) = (n2 : Int) := ⟨x + 1, by omega⟩
  have hn5 : 1 ≤ n2 ∧ n2 ≤ 3 := by omega
  clear hx
  have HR5b := HR5
  go_wp2_with fail
  refine (pick_any l1 A1 c1 w.heap.size (p4 + 1) w.heap.size 24 _ HR5.out HL5.out (Nat.le_refl _) (by omega) hll (by omega) (by omega)).mono ?_
  rintro e w6 ⟨y, rfl, hy, hr6, hg6⟩
  have HR6 := Lib.hid hr6
  have HL6 := Lib.hid (HL5.out.grown hg6 (Nat.le_of_lt HR5.out.lt) (fun g hg => by injection hg with hg; omega))
  have HG6 := Lib.hid (grown_trans HG5.out hg6)
  have HGx := Lib.hid hg6
  clear hr6 hg6 HL5 HG5
  have HO6 := Lib.hid (own_pick HO5.out HR5b.out HGx.out (by decide))
  clear HO5 HGx HR5b
  obtain ⟨m2, hem2⟩ : ∃ m2 : Nat, (m : Int) + (y : Int) / 23 = (m2 : Int) := ⟨m + y / 23, by omega⟩
  have hm5 : 1 ≤ m2 ∧ m2 ≤ 5 := by omega
  clear hy
  go_wp2_with fail
  refine (l91Of_any l1 A1 c1 w.heap.size (p4 + 1 + 1) w.heap.size n2 m2 _ HR6.out HL6.out (Nat.le_refl _) (by omega) hll (by omega) (by omega)).mono ?_
  rintro e w7 ⟨h, A7, c7, p7, rfl, hown7, hlo7, hhi7, hsz7, hr7, hp7, hg7⟩
  have HO7 := Lib.hid (own_pick HO6.out HR6.out hg7 (by decide))
  have HQ7 := Lib.hid hown7
  have hb := (Below.refl w.heap.size w).grown HG6.out (Nat.le_refl _) (fun k hk => by injection hk with hk; omega)
  have hb7 := hb.grown hg7 hb.size (fun k hk => by injection hk with hk; omega)
  have HB7 := Lib.hid hb7
  clear hown7 hr7 hg7 hb hb7 HO6 HG6 HL6 HR6
  clear hen hem hen2 hem2
  have hgm : ∀ s ∈ g, 1 ≤ s.size ∧ s.size ≤ 7 := fun s hs => by have := hsz s hs; omega
  have hhm : ∀ s ∈ h, 1 ≤ s.size ∧ s.size ≤ 7 := fun s hs => by have := hsz7 s hs; omega
  clear hsz hsz7
  go_wp2
  go_ret2
  exact ⟨g, h, A4, A7, c4, c7, rfl, Rd.of_own HO7.out, Rd.of_own HQ7.out, ⟨by omega, by omega, hgm⟩, ⟨by omega, by omega, hhm⟩, HB7.out, (own_cap HO7.out).1, (own_cap HQ7.out).1⟩
/-- three numbers have been drawn -/
def DrawNNN (w : World) (e : Ending) (w' : World) : Prop :=
  ∃ (n m x : Int), e = .returned (.tuple #[.int .i64 n, .int .i64 m, .int .i64 x]) ∧ (1 ≤ n ∧ n ≤ 6) ∧ (1 ≤ m ∧ m ≤ 3) ∧ (-1000 ≤ x ∧ x ≤ 100000) ∧ Below w.heap.size w w'
set_option maxHeartbeats 800000 in
theorem DrawGridOf_any (l : List UInt8) (A : Option Addr) (c : Nat) (w : World) (hl : Rd w w.heap.size A (bv l)) (hm : l.length ≤ c ∧ l.length ≤ maxLen) :
    Calls Try.prog 31 #[.slice A l.length c] w (DrawNNN w) := by
  go_enter Try.func31, Try.ntmps31
  go_wp2_with fail
  refine (l6Open_any l A c w.heap.size _ hl (Nat.le_refl _) hm.1 hm.2).mono ?_
  rintro e w1 ⟨l1, A1, c1, rfl, hll, hr1, hl1, hg1⟩
  have HR1 := Lib.hid hr1
  have HL1 := Lib.hid hl1
  have HG1 := Lib.hid (show w.grownBy w1 (some w.heap.size) from ⟨hg1.os, hg1.tape, hg1.output, hg1.size, fun k hk hne => hg1.block k hk (by intro e; cases e)⟩)
  clear hl hr1 hl1 hg1
  go_wp2_with fail
  refine (pick_any l1 A1 c1 w.heap.size 0 w.heap.size 3 _ HR1.out HL1.out (Nat.le_refl _) (by omega) hll (by omega) (by omega)).mono ?_
  rintro e w2 ⟨v, rfl, hv, hr2, hg2⟩
  have HR2 := Lib.hid hr2
  have HL2 := Lib.hid (HL1.out.grown hg2 (Nat.le_of_lt HR1.out.lt) (fun g hg => by injection hg with hg; omega))
  have HG2 := Lib.hid (grown_trans HG1.out hg2)
  have HGx := Lib.hid hg2
  clear hr2 hg2 HL1 HG1
  have hv2 : (v : Int) ≤ 2 := by omega
  clear hv
  go_wp2_with fail
  refine (pick_any l1 A1 c1 w.heap.size (0 + 1) w.heap.size 24 _ HR2.out HL2.out (Nat.le_refl _) (by omega) hll (by omega) (by omega)).mono ?_
  rintro e w3 ⟨u, rfl, hu, hr3, hg3⟩
  have HR3 := Lib.hid hr3
  have HL3 := Lib.hid (HL2.out.grown hg3 (Nat.le_of_lt HR2.out.lt) (fun g hg => by injection hg with hg; omega))
  have HG3 := Lib.hid (grown_trans HG2.out hg3)
  have HGx := Lib.hid hg3
  clear hr3 hg3 HL2 HG2
  have hu2 : (u : Int) ≤ 23 := by omega
  clear hu
  go_wp2_with fail
  refine (pick_any l1 A1 c1 w.heap.size (0 + 1 + 1) w.heap.size 3 _ HR3.out HL3.out (Nat.le_refl _) (by omega) hll (by omega) (by omega)).mono ?_
  rintro e w4 ⟨x, rfl, hx, hr4, hg4⟩
  have HR4 := Lib.hid hr4
  have HL4 := Lib.hid (HL3.out.grown hg4 (Nat.le_of_lt HR3.out.lt) (fun g hg => by injection hg with hg; omega))
  have HG4 := Lib.hid (grown_trans HG3.out hg4)
  have HGx := Lib.hid hg4
  clear hr4 hg4 HL3 HG3
  have hx2 : (x : Int) ≤ 2 := by omega
  clear hx
  go_wp2_with fail
  refine (pick_any l1 A1 c1 w.heap.size (0 + 1 + 1 + 1) w.heap.size 200 _ HR4.out HL4.out (Nat.le_refl _) (by omega) hll (by omega) (by omega)).mono ?_
  rintro e w5 ⟨a, rfl, ha, hr5, hg5⟩
  have HR5 := Lib.hid hr5
  have HL5 := Lib.hid (HL4.out.grown hg5 (Nat.le_of_lt HR4.out.lt) (fun g hg => by injection hg with hg; omega))
  have HG5 := Lib.hid (grown_trans HG4.out hg5)
  have HGx := Lib.hid hg5
  clear hr5 hg5 HL4 HG4
  have ha2 : a ≤ 199 := by omega
  clear ha
  go_wp2_with fail
  refine (pick_any l1 A1 c1 w.heap.size (0 + 1 + 1 + 1 + 1) w.heap.size 200 _ HR5.out HL5.out (Nat.le_refl _) (by omega) hll (by omega) (by omega)).mono ?_
  rintro e w6 ⟨b, rfl, hb, hr6, hg6⟩
  have HR6 := Lib.hid hr6
  have HL6 := Lib.hid (HL5.out.grown hg6 (Nat.le_of_lt HR5.out.lt) (fun g hg => by injection hg with hg; omega))
  have HG6 := Lib.hid (grown_trans HG5.out hg6)
  have HGx := Lib.hid hg6
  clear hr6 hg6 HL5 HG5
  have hb2 : b ≤ 199 := by omega
  clear hb
  have hmul := mul_bd (n := a) (m := b) (a := 199) (b := 199) ha2 hb2
  obtain ⟨hmul1, hmul2⟩ := hmul
  go_wp2_with fail
  refine (pick_any l1 A1 c1 w.heap.size (0 + 1 + 1 + 1 + 1 + 1) w.heap.size 9 _ HR6.out HL6.out (Nat.le_refl _) (by omega) hll (by omega) (by omega)).mono ?_
  rintro e w7 ⟨y, rfl, hy, hr7, hg7⟩
  have HR7 := Lib.hid hr7
  have HL7 := Lib.hid (HL6.out.grown hg7 (Nat.le_of_lt HR6.out.lt) (fun g hg => by injection hg with hg; omega))
  have HG7 := Lib.hid (grown_trans HG6.out hg7)
  have HGx := Lib.hid hg7
  clear hr7 hg7 HL6 HG6
  have hy2 : (y : Int) ≤ 8 := by omega
  clear hy
  go_wp2_with fail
  refine (pick_any l1 A1 c1 w.heap.size (0 + 1 + 1 + 1 + 1 + 1 + 1) w.heap.size 24 _ HR7.out HL7.out (Nat.le_refl _) (by omega) hll (by omega) (by omega)).mono ?_
  rintro e w8 ⟨z, rfl, hz, hr8, hg8⟩
  have HR8 := Lib.hid hr8
  have HL8 := Lib.hid (HL7.out.grown hg8 (Nat.le_of_lt HR7.out.lt) (fun g hg => by injection hg with hg; omega))
  have HG8 := Lib.hid (grown_trans HG7.out hg8)
  have HGx := Lib.hid hg8
  clear hr8 hg8 HL7 HG7
  have hz2 : (z : Int) ≤ 23 := by omega
  clear hz
  have HB8 := Lib.hid ((Below.refl w.heap.size w).grown HG8.out (Nat.le_refl _) (fun k hk => by injection hk with hk; omega))
  go_wp2
  go_ret3
  exact ⟨_, _, _, rfl, by omega, by omega, by omega, HB8.out⟩
end Go.Proofs.Ytjnelfgjglpchaa
