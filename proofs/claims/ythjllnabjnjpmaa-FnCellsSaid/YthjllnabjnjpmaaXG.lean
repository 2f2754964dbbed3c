/-
  CONTRACTS OF THE DRAWS: a cell of a grid; a grid, a cell and a direction; a grid, a cell and a letter.
-/
import Derived.Test.YthjllnabjnjpmaaX
import Derived.Test.YthjllnabjnjpmaaBT
namespace Go.Proofs.Ythjllnabjnjpmaa
set_option maxRecDepth 100000
open Go.RowKit

def AtPost (l : List UInt8) (A : Option Addr) (c rb p : Nat) (w : World) (e : Ending) (w' : World) : Prop :=
  ∃ v : Int, e = .returned (.int .i64 v) ∧ (-1000 ≤ v ∧ v ≤ 1000) ∧ Rdr w' rb A l.length c (p + 3) ∧ w.grownBy w' (some rb)
set_option maxHeartbeats 800000 in
theorem l91At_any (l : List UInt8) (A : Option Addr) (c rb p B : Nat) (Ag : Option Addr) (cg Bg : Nat) (g : List ByteArray) (w : World) (hr : Rdr w rb A l.length c p) (hl : Rd w B A (bv l)) (hB : B ≤ rb) (hp : p ≤ 5000) (hll : l.length ≤ 2000)
    (hg : Rd w Bg Ag (sv g)) (hg1 : 1 ≤ g.length) (hg4 : g.length ≤ 4) (hsz : ∀ s ∈ g, 1 ≤ s.size ∧ s.size ≤ 5) :
    Calls Try.prog 36 #[.pointer (some ⟨rb, 0, none⟩), .slice Ag g.length cg] w (AtPost l A c rb p w) := by
  have hpos : 0 < g.length := by omega
  obtain ⟨b, off, rfl, hbb, _⟩ := hg.at_ (sv_get g 0 hpos)
  obtain ⟨s0, hc0, hz0⟩ : ∃ s0 : ByteArray, w.cell? ⟨b, off, none⟩ = some (.string s0) ∧ (1 ≤ s0.size ∧ s0.size ≤ 5) := ⟨g[0], by have := hg.cell (sv_get g 0 hpos); rw [Nat.add_zero] at this; exact this, hsz _ (List.getElem_mem _)⟩
  obtain ⟨hz1, hz5⟩ := hz0
  have hmb := mul_bd hg4 hz5
  obtain ⟨hmb1, hmb2⟩ := hmb
  obtain ⟨P, hP⟩ : ∃ P : Nat, (g.length : Int) * (s0.size : Int) = (P : Int) := ⟨g.length * s0.size, by rw [Int.natCast_mul]⟩
  have hP20 : P ≤ 20 := by omega
  have HR := Lib.hid hr
  have HL := Lib.hid hl
  clear hr hl hg hsz
  go_enter Try.func36, Try.ntmps36
  go_wp2_with fail
  refine (pick_any l A c rb p B P _ HR.out HL.out hB (by omega) hll (by omega) (by omega)).mono ?_
  rintro e w1 ⟨v, rfl, hv, hr1, hg1'⟩
  have HR1 := Lib.hid hr1
  have HL1 := Lib.hid (HL.out.grown hg1' (Nat.le_trans hB (Nat.le_of_lt HR.out.lt)) (fun g hg => by injection hg with hg; omega))
  have HG1 := Lib.hid hg1'
  have hv2 : (v : Int) ≤ 20 := by omega
  clear hr1 hg1' hc0 HL HR hv hP
  go_wp2_with fail
  refine (pick_any l A c rb (p + 1) B 24 _ HR1.out HL1.out hB (by omega) hll (by omega) (by omega)).mono ?_
  rintro e w2 ⟨u, rfl, hu, hr2, hg2⟩
  have HR2 := Lib.hid hr2
  have HL2 := Lib.hid (HL1.out.grown hg2 (Nat.le_trans hB (Nat.le_of_lt HR1.out.lt)) (fun g hg => by injection hg with hg; omega))
  have HG2 := Lib.hid (grown_trans HG1.out hg2)
  have hu2 : (u : Int) ≤ 23 := by omega
  clear hr2 hg2 HL1 HR1 HG1 hu
  go_wp2_with fail
  refine (pick_any l A c rb (p + 1 + 1) B 24 _ HR2.out HL2.out hB (by omega) hll (by omega) (by omega)).mono ?_
  rintro e w3 ⟨x, rfl, hx, hr3, hg3⟩
  have HR3 := Lib.hid hr3
  have HG3 := Lib.hid (grown_trans HG2.out hg3)
  have hx2 : (x : Int) ≤ 23 := by omega
  clear hr3 hg3 HL2 HR2 HG2 hx
  go_wp2
  go_ret
  exact ⟨_, rfl, ⟨by omega, by omega⟩, HR3.out, HG3.out⟩
/-- a grid and two numbers have been drawn -/
def DrawGII (w : World) (e : Ending) (w' : World) : Prop :=
  ∃ (g : List ByteArray) (A : Option Addr) (c : Nat) (n m : Int), e = .returned (.tuple #[.slice A g.length c, .int .i64 n, .int .i64 m]) ∧ Rd w' w'.heap.size A (sv g) ∧ (1 ≤ g.length ∧ g.length ≤ 4 ∧ ∀ s ∈ g, 1 ≤ s.size ∧ s.size ≤ 5) ∧ ((-1000 ≤ n ∧ n ≤ 1000) ∧ (-1000 ≤ m ∧ m ≤ 1000)) ∧ Below w.heap.size w w' ∧ g.length ≤ c
theorem leastA_le (g : List ByteArray) : leastA g ≤ 1000 := by
  cases hg : gridB g
  · rw [(least_no hg).1]; exact Nat.zero_le _
  · cases hl : (fld g).leastO with
    | none => rw [(least_not hg hl).1]; exact Nat.zero_le _
    | some c =>
      rw [(least_is hg hl).1]
      have h1 := (Fd.least_inv hl).1
      have h2 := cells_25 hg
      rw [cells_fld] at h1
      omega
set_option maxHeartbeats 1600000 in
theorem DrawRoundCells_any (l : List UInt8) (A : Option Addr) (c : Nat) (w : World) (hl : Rd w w.heap.size A (bv l)) (hm : l.length ≤ c ∧ l.length ≤ maxLen) :
    Calls Try.prog 24 #[.slice A l.length c] w (DrawGII w) := by
  go_enter Try.func24, Try.ntmps24
  go_wp2_with fail
  refine (l6Open_any l A c w.heap.size _ hl (Nat.le_refl _) hm.1 hm.2).mono ?_
  rintro e w1 ⟨l1, A1, c1, rfl, hll, hr1, hl1, hg1⟩
  have HR1 := Lib.hid hr1
  have HL1 := Lib.hid hl1
  have HG1 := Lib.hid (show w.grownBy w1 (some w.heap.size) from ⟨hg1.os, hg1.tape, hg1.output, hg1.size, fun k hk hne => hg1.block k hk (by intro e; cases e)⟩)
  clear hl hr1 hl1 hg1
  go_wp2_with fail
  refine (l91Some_any l1 A1 c1 w.heap.size 0 w.heap.size 4 4 _ HR1.out HL1.out (Nat.le_refl _) (by omega) hll (by omega) (by omega)).mono ?_
  rintro e w2 ⟨g, A2, c2, p2, rfl, hown, hlo, hhi, hsz, hr2, hp2, hg2⟩
  have HO2 := Lib.hid (own_base hown HG1.out.size)
  have HG2 := Lib.hid (grown_trans HG1.out hg2)
  have HL2 := Lib.hid (HL1.out.grown hg2 HG1.out.size (fun g hg => by injection hg with hg; omega))
  have HR2 := Lib.hid hr2
  have hgm : g.length ≤ maxLen := by unfold maxLen; omega
  have hgs : ∀ s ∈ g, s.size ≤ maxLen := fun s hs => by have := hsz s hs; unfold maxLen; omega
  have hlst := sRoundLeast_any A2 c2 g w2 (Rd.of_own HO2.out) hgm hgs
  have hl1000 := leastA_le g
  have HLST := Lib.hid hlst
  generalize leastA g = K at *
  generalize leastB g = lb at *
  have HSZ := Lib.hid hsz
  have HGS := Lib.hid hgs
  clear hown hr2 hg2 HG1 HL1 HR1 hlst hsz hgs
  go_wp2_with fail
  refine HLST.out.mono ?_
  rintro e w3 ⟨rfl, hb3⟩
  have HO3 := Lib.hid (own_keep HO2.out hb3)
  have HG3 := Lib.hid (grown_below HG2.out hb3)
  have HL3 := Lib.hid (HL2.out.below (hb3.mono HG2.out.size))
  have HR3 := Lib.hid (HR2.out.below hb3)
  clear hb3 HO2 HG2 HL2 HR2 HLST
  cases lb
  · have HAT := Lib.hid (l91At_any l1 A1 c1 w.heap.size p2 w.heap.size A2 c2 _ g w3 HR3.out HL3.out (Nat.le_refl _) (by omega) hll (Rd.of_own HO3.out) hlo hhi HSZ.out)
    go_wp2_with fail
    refine HAT.out.mono ?_
    rintro e w6 ⟨v, rfl, ⟨hv1, hv2⟩, hr6, hg6⟩
    have HO6 := Lib.hid (own_pick HO3.out HR3.out hg6 (by decide))
    have HL6 := Lib.hid (HL3.out.grown hg6 (Nat.le_of_lt HR3.out.lt) (fun g hg => by injection hg with hg; omega))
    have HG6 := Lib.hid (grown_trans HG3.out hg6)
    have HR6 := Lib.hid hr6
    obtain ⟨p6, hp6⟩ : ∃ p6, p6 ≤ 200 ∧ Rdr w6 w.heap.size A1 l1.length c1 p6 := ⟨_, by omega, hr6⟩
    have HR6 := Lib.hid hp6.2
    have hp6 := hp6.1
    clear hr6 hg6 HO3 HL3 HG3 HR3 HAT
    go_wp2_with fail
    refine (pick_any l1 A1 c1 w.heap.size p6 w.heap.size 4 _ HR6.out HL6.out (Nat.le_refl _) (by omega) hll (by omega) (by omega)).mono ?_
    rintro e w7 ⟨x, rfl, hx, hr7, hg7⟩
    have HO7 := Lib.hid (own_pick HO6.out HR6.out hg7 (by decide))
    have HL7 := Lib.hid (HL6.out.grown hg7 (Nat.le_of_lt HR6.out.lt) (fun g hg => by injection hg with hg; omega))
    have HG7 := Lib.hid (grown_trans HG6.out hg7)
    have HR7 := Lib.hid hr7
    have hx2 : (x : Int) ≤ 4 := by omega
    clear hr7 hg7 HO6 HL6 HG6 HR6 hx
    go_wp2_with fail
    refine (pick_any l1 A1 c1 w.heap.size (p6 + 1) w.heap.size 24 _ HR7.out HL7.out (Nat.le_refl _) (by omega) hll (by omega) (by omega)).mono ?_
    rintro e w8 ⟨y, rfl, hy, hr8, hg8⟩
    have HO8 := Lib.hid (own_pick HO7.out HR7.out hg8 (by decide))
    have HG8 := Lib.hid (grown_trans HG7.out hg8)
    have HB8 := Lib.hid ((Below.refl w.heap.size w).grown HG8.out (Nat.le_refl _) (fun k hk => by injection hk with hk; omega))
    have hy2 : (y : Int) ≤ 23 := by omega
    clear hr8 hg8 HO7 HL7 HG7 HR7 hy
    go_wp2
    go_ret3
    exact ⟨g, _, c2, _, _, rfl, Rd.of_own HO8.out, ⟨hlo, hhi, HSZ.out⟩, ⟨⟨by omega, by omega⟩, ⟨by omega, by omega⟩⟩, HB8.out, (own_cap HO8.out).1⟩
  ·
    go_wp2_with fail
    refine (pick_any l1 A1 c1 w.heap.size p2 w.heap.size 3 _ HR3.out HL3.out (Nat.le_refl _) (by omega) hll (by omega) (by omega)).mono ?_
    rintro e w4 ⟨u, rfl, hu, hr4, hg4⟩
    have HR4 := Lib.hid hr4
    have HL4 := Lib.hid (HL3.out.grown hg4 (Nat.le_of_lt HR3.out.lt) (fun g hg => by injection hg with hg; omega))
    have HG4 := Lib.hid (grown_trans HG3.out hg4)
    have HGx := Lib.hid hg4
    clear hr4 hg4 HL3 HG3
    have HO4 := Lib.hid (own_pick HO3.out HR3.out HGx.out (by decide))
    clear HO3 HGx
    rcases Nat.eq_zero_or_pos u with h0 | h0
    · have hu0 : ¬ ((0 : Int) < (u : Int)) := by omega
      have hu0d : decide ((0 : Int) < (u : Int)) = false := decide_eq_false hu0
      have HAT := Lib.hid (l91At_any l1 A1 c1 w.heap.size (p2 + 1) w.heap.size A2 c2 _ g w4 HR4.out HL4.out (Nat.le_refl _) (by omega) hll (Rd.of_own HO4.out) hlo hhi HSZ.out)
      clear h0
      go_wp2_with fail
      refine HAT.out.mono ?_
      rintro e w6 ⟨v, rfl, ⟨hv1, hv2⟩, hr6, hg6⟩
      have HO6 := Lib.hid (own_pick HO4.out HR4.out hg6 (by decide))
      have HL6 := Lib.hid (HL4.out.grown hg6 (Nat.le_of_lt HR4.out.lt) (fun g hg => by injection hg with hg; omega))
      have HG6 := Lib.hid (grown_trans HG4.out hg6)
      have HR6 := Lib.hid hr6
      obtain ⟨p6, hp6⟩ : ∃ p6, p6 ≤ 200 ∧ Rdr w6 w.heap.size A1 l1.length c1 p6 := ⟨_, by omega, hr6⟩
      have HR6 := Lib.hid hp6.2
      have hp6 := hp6.1
      clear hr6 hg6 HO4 HL4 HG4 HR4 HAT
      go_wp2_with fail
      refine (pick_any l1 A1 c1 w.heap.size p6 w.heap.size 4 _ HR6.out HL6.out (Nat.le_refl _) (by omega) hll (by omega) (by omega)).mono ?_
      rintro e w7 ⟨x, rfl, hx, hr7, hg7⟩
      have HO7 := Lib.hid (own_pick HO6.out HR6.out hg7 (by decide))
      have HL7 := Lib.hid (HL6.out.grown hg7 (Nat.le_of_lt HR6.out.lt) (fun g hg => by injection hg with hg; omega))
      have HG7 := Lib.hid (grown_trans HG6.out hg7)
      have HR7 := Lib.hid hr7
      have hx2 : (x : Int) ≤ 4 := by omega
      clear hr7 hg7 HO6 HL6 HG6 HR6 hx
      go_wp2_with fail
      refine (pick_any l1 A1 c1 w.heap.size (p6 + 1) w.heap.size 24 _ HR7.out HL7.out (Nat.le_refl _) (by omega) hll (by omega) (by omega)).mono ?_
      rintro e w8 ⟨y, rfl, hy, hr8, hg8⟩
      have HO8 := Lib.hid (own_pick HO7.out HR7.out hg8 (by decide))
      have HG8 := Lib.hid (grown_trans HG7.out hg8)
      have HB8 := Lib.hid ((Below.refl w.heap.size w).grown HG8.out (Nat.le_refl _) (fun k hk => by injection hk with hk; omega))
      have hy2 : (y : Int) ≤ 23 := by omega
      clear hr8 hg8 HO7 HL7 HG7 HR7 hy
      go_wp2
      go_ret3
      exact ⟨g, _, c2, _, _, rfl, Rd.of_own HO8.out, ⟨hlo, hhi, HSZ.out⟩, ⟨⟨by omega, by omega⟩, ⟨by omega, by omega⟩⟩, HB8.out, (own_cap HO8.out).1⟩
    · have hu0 : (0 : Int) < (u : Int) := by omega
      go_wp2_with fail
      refine (pick_any l1 A1 c1 w.heap.size (p2 + 1) w.heap.size 4 _ HR4.out HL4.out (Nat.le_refl _) (by omega) hll (by omega) (by omega)).mono ?_
      rintro e w5 ⟨d, rfl, hd, hr5, hg5⟩
      have HR5 := Lib.hid hr5
      have HL5 := Lib.hid (HL4.out.grown hg5 (Nat.le_of_lt HR4.out.lt) (fun g hg => by injection hg with hg; omega))
      have HG5 := Lib.hid (grown_trans HG4.out hg5)
      have HGx := Lib.hid hg5
      clear hr5 hg5 HL4 HG4
      have HO5 := Lib.hid (own_pick HO4.out HR4.out HGx.out (by decide))
      have HB5 := Lib.hid ((Below.refl w.heap.size w).grown HG5.out (Nat.le_refl _) (fun k hk => by injection hk with hk; omega))
      have hd2 : (d : Int) ≤ 4 := by omega
      go_wp2
      go_ret3
      exact ⟨g, _, c2, _, _, rfl, Rd.of_own HO5.out, ⟨hlo, hhi, HSZ.out⟩, ⟨⟨by omega, by omega⟩, ⟨by omega, by omega⟩⟩, HB5.out, (own_cap HO5.out).1⟩
/-- a grid and a number have been drawn -/
def DrawGN (w : World) (e : Ending) (w' : World) : Prop :=
  ∃ (g : List ByteArray) (A : Option Addr) (c : Nat) (n : Int), e = .returned (.tuple #[.slice A g.length c, .int .i64 n]) ∧ Rd w' w'.heap.size A (sv g) ∧ (1 ≤ g.length ∧ g.length ≤ 4 ∧ ∀ s ∈ g, 1 ≤ s.size ∧ s.size ≤ 5) ∧ (-1000 ≤ n ∧ n ≤ 1000) ∧ Below w.heap.size w w' ∧ g.length ≤ c
theorem DrawRoundAt_any (l : List UInt8) (A : Option Addr) (c : Nat) (w : World) (hl : Rd w w.heap.size A (bv l)) (hm : l.length ≤ c ∧ l.length ≤ maxLen) :
    Calls Try.prog 20 #[.slice A l.length c] w (DrawGN w) := by
  go_enter Try.func20, Try.ntmps20
  go_wp2_with fail
  refine (DrawRoundCells_any l A c w hl hm).mono ?_
  rintro e w2 ⟨g, A2, c2, n, m, rfl, hg, hz, hn, hb, hc⟩
  have HG := Lib.hid hg
  clear hg
  go_wp2
  go_ret2
  exact ⟨g, A2, c2, n, rfl, HG.out, hz, hn.1, hb, hc⟩
set_option maxHeartbeats 800000 in
theorem of_any (l : List UInt8) (A : Option Addr) (c rb p B base b2 n c2 : Nat) (xs : List ByteArray) (w : World) (hr : Rdr w rb A l.length c p) (hl : Rd w B A (bv l)) (hB : B ≤ rb) (hp : p ≤ 5000) (hll : l.length ≤ 2000)
    (ho : w.ownsRow base 9 1 (.slice (some ⟨b2, 0, none⟩) n c2) n (sv xs)) (hn : xs.length = n) (hn1 : 1 ≤ n) (hn2 : n ≤ 1000) :
    Calls Try.prog 37 #[.pointer (some ⟨rb, 0, none⟩), .slice (some ⟨b2, 0, none⟩) n c2] w fun e w' => ∃ v : Nat, ∃ hv : v < xs.length, e = .returned (.string xs[v]) ∧ Rdr w' rb A l.length c (p + 1) ∧ w.grownBy w' (some rb) := by
  have HR := Lib.hid hr
  have HL := Lib.hid hl
  have HO := Lib.hid ho
  clear hr hl ho
  go_enter Try.func37, Try.ntmps37
  go_wp2_with fail
  refine (pick_any l A c rb p B n _ HR.out HL.out hB (by omega) hll (by omega) (by omega)).mono ?_
  rintro e w1 ⟨v, rfl, hv, hr1, hg1⟩
  have HR1 := Lib.hid hr1
  have HG1 := Lib.hid hg1
  have hvn : v < xs.length := by omega
  have hcell := (Rd.of_own (own_pick HO.out HR.out hg1 (by decide))).cell (sv_get xs v hvn)
  rw [Nat.zero_add] at hcell
  have hvi : (v : Int) < (n : Int) := by omega
  clear hr1 hg1 HO HL HR hv
  go_wp2
  go_ret
  exact ⟨v, hvn, rfl, HR1.out, HG1.out⟩
/-- a grid, a number and a text have been drawn -/
def DrawGIT (w : World) (e : Ending) (w' : World) : Prop :=
  ∃ (g : List ByteArray) (A : Option Addr) (c : Nat) (n : Int) (t : ByteArray), e = .returned (.tuple #[.slice A g.length c, .int .i64 n, .string t]) ∧ Rd w' w'.heap.size A (sv g) ∧ (1 ≤ g.length ∧ g.length ≤ 4 ∧ ∀ s ∈ g, 1 ≤ s.size ∧ s.size ≤ 5) ∧ (-1000 ≤ n ∧ n ≤ 1000) ∧ t.size ≤ 2 ∧ Below w.heap.size w w' ∧ g.length ≤ c
def nineT : List ByteArray := [⟨#[46]⟩, ⟨#[114]⟩, ⟨#[102]⟩, ⟨#[46]⟩, ⟨#[114]⟩, ⟨#[102]⟩, ⟨#[120]⟩, ⟨#[]⟩, ⟨#[114, 102]⟩]
theorem nine_small : ∀ t ∈ nineT, t.size ≤ 2 := by decide
theorem nine_own (w : World) (base : Nat) (hb : base ≤ w.heap.size) : (w.alloc (.cells (sv nineT).toArray 9)).ownsRow base 9 1 (.slice (some ⟨w.heap.size, 0, none⟩) 9 9) 9 (sv nineT) :=
  ⟨rfl, .inr ⟨w.heap.size, 9, (sv nineT).toArray, rfl, hb, heap_alloc_new w _, Nat.le_refl _, by decide, rfl, by rfl⟩⟩
set_option maxHeartbeats 1600000 in
theorem DrawGridPut_any (l : List UInt8) (A : Option Addr) (c : Nat) (w : World) (hl : Rd w w.heap.size A (bv l)) (hm : l.length ≤ c ∧ l.length ≤ maxLen) :
    Calls Try.prog 12 #[.slice A l.length c] w (DrawGIT w) := by
  go_enter Try.func12, Try.ntmps12
  go_wp2_with fail
  refine (l6Open_any l A c w.heap.size _ hl (Nat.le_refl _) hm.1 hm.2).mono ?_
  rintro e w1 ⟨l1, A1, c1, rfl, hll, hr1, hl1, hg1⟩
  have HR1 := Lib.hid hr1
  have HL1 := Lib.hid hl1
  have HG1 := Lib.hid (show w.grownBy w1 (some w.heap.size) from ⟨hg1.os, hg1.tape, hg1.output, hg1.size, fun k hk hne => hg1.block k hk (by intro e; cases e)⟩)
  clear hl hr1 hl1 hg1
  go_wp2_with fail
  refine (l91Some_any l1 A1 c1 w.heap.size 0 w.heap.size 4 4 _ HR1.out HL1.out (Nat.le_refl _) (by omega) hll (by omega) (by omega)).mono ?_
  rintro e w2 ⟨g, A2, c2, p2, rfl, hown, hlo, hhi, hsz, hr2, hp2, hg2⟩
  have HO2 := Lib.hid (own_base hown HG1.out.size)
  have HG2 := Lib.hid (grown_trans HG1.out hg2)
  have HL2 := Lib.hid (HL1.out.grown hg2 HG1.out.size (fun g hg => by injection hg with hg; omega))
  have HR2 := Lib.hid hr2
  have HSZ := Lib.hid hsz
  have HAT := Lib.hid (l91At_any l1 A1 c1 w.heap.size p2 w.heap.size A2 c2 _ g w2 HR2.out HL2.out (Nat.le_refl _) (by omega) hll (Rd.of_own HO2.out) hlo hhi hsz)
  clear hown hr2 hg2 HG1 HL1 HR1 hsz
  go_wp2_with fail
  refine HAT.out.mono ?_
  rintro e w3 ⟨v, rfl, ⟨hv1, hv2⟩, hr3, hg3⟩
  have HO3 := Lib.hid (own_pick HO2.out HR2.out hg3 (by decide))
  have HL3 := Lib.hid (HL2.out.grown hg3 (Nat.le_of_lt HR2.out.lt) (fun g hg => by injection hg with hg; omega))
  have HG3 := Lib.hid (grown_trans HG2.out hg3)
  obtain ⟨p3, hp3, hr3'⟩ : ∃ p3, p3 ≤ 200 ∧ Rdr w3 w.heap.size A1 l1.length c1 p3 := ⟨_, by omega, hr3⟩
  have hb3 := below_alloc1 w3 (.cells (sv nineT).toArray 9)
  have hsz3 := hg3.size
  have hsz2 := HG2.out.size
  have HR4 := Lib.hid (hr3'.below hb3)
  have HL4 := Lib.hid (HL3.out.below (hb3.mono (by omega)))
  have HO4 := Lib.hid (own_keep HO3.out hb3)
  have HG4 := Lib.hid (grown_below HG3.out hb3)
  have HN4 := Lib.hid (nine_own w3 w.heap.size (by omega))
  have HOF := Lib.hid (of_any l1 A1 c1 w.heap.size p3 w.heap.size w.heap.size w3.heap.size 9 9 nineT _ HR4.out HL4.out (Nat.le_refl _) (by omega) hll HN4.out rfl (by omega) (by omega))
  clear hr3 hg3 hr3' HO2 HL2 HG2 HR2 HAT HO3 HL3 HG3 hb3 HN4
  go_wp2_with fail
  refine HOF.out.mono ?_
  rintro e w5 ⟨i, hi, rfl, hr5, hg5⟩
  have HO5 := Lib.hid (own_pick HO4.out HR4.out hg5 (by decide))
  have HG5 := Lib.hid (grown_trans HG4.out hg5)
  have HB5 := Lib.hid ((Below.refl w.heap.size w).grown HG5.out (Nat.le_refl _) (fun k hk => by injection hk with hk; omega))
  have HT := Lib.hid (nine_small nineT[i] (List.getElem_mem hi))
  clear hr5 hg5 HO4 HG4 HR4 HL4 HOF
  go_wp2
  go_ret3
  exact ⟨g, _, c2, _, _, rfl, Rd.of_own HO5.out, ⟨hlo, hhi, HSZ.out⟩, ⟨by omega, by omega⟩, HT.out, HB5.out, (own_cap HO5.out).1⟩
theorem results_tmp5 {fn : Func} {t u v x y : Tmp} (h : fn.results = #[.tmp t, .tmp u, .tmp v, .tmp x, .tmp y]) (tmps : Array Value) (P : Program) (w : World) :
    (results fn tmps).run P w = .ok (.tuple #[tmps.getD t undef, tmps.getD u undef, tmps.getD v undef, tmps.getD x undef, tmps.getD y undef]) w := by
  simp [results, h]
def DrawGIP (w : World) (e : Ending) (w' : World) : Prop :=
  ∃ (g : List ByteArray) (A : Option Addr) (c : Nat) (t l a b : Int), e = .returned (.tuple #[.slice A g.length c, .int .i64 t, .int .i64 l, .int .i64 a, .int .i64 b]) ∧ Rd w' w'.heap.size A (sv g) ∧ (1 ≤ g.length ∧ g.length ≤ 4 ∧ ∀ s ∈ g, 1 ≤ s.size ∧ s.size ≤ 5) ∧ Below w.heap.size w w' ∧ g.length ≤ c
set_option maxHeartbeats 1600000 in
theorem DrawGridPart_any (l : List UInt8) (A : Option Addr) (c : Nat) (w : World) (hl : Rd w w.heap.size A (bv l)) (hm : l.length ≤ c ∧ l.length ≤ maxLen) :
    Calls Try.prog 8 #[.slice A l.length c] w (DrawGIP w) := by
  go_enter Try.func8, Try.ntmps8
  go_wp2_with fail
  refine (l6Open_any l A c w.heap.size _ hl (Nat.le_refl _) hm.1 hm.2).mono ?_
  rintro e w1 ⟨l1, A1, c1, rfl, hll, hr1, hl1, hg1⟩
  have HR1 := Lib.hid hr1
  have HL1 := Lib.hid hl1
  have HG1 := Lib.hid (show w.grownBy w1 (some w.heap.size) from ⟨hg1.os, hg1.tape, hg1.output, hg1.size, fun k hk hne => hg1.block k hk (by intro e; cases e)⟩)
  clear hl hr1 hl1 hg1
  go_wp2_with fail
  refine (l91Some_any l1 A1 c1 w.heap.size 0 w.heap.size 4 4 _ HR1.out HL1.out (Nat.le_refl _) (by omega) hll (by omega) (by omega)).mono ?_
  rintro e w2 ⟨g, A2, c2, p2, rfl, hown, hlo, hhi, hsz, hr2, hp2, hg2⟩
  have hpos : 0 < g.length := by omega
  have HO2 := Lib.hid (own_base hown HG1.out.size)
  have HG2 := Lib.hid (grown_trans HG1.out hg2)
  have HL2 := Lib.hid (HL1.out.grown hg2 HG1.out.size (fun g hg => by injection hg with hg; omega))
  have HR2 := Lib.hid hr2
  have HSZ := Lib.hid hsz
  obtain ⟨b, off, rfl, hbb, _⟩ := (Rd.of_own HO2.out).at_ (sv_get g 0 hpos)
  obtain ⟨s0, hs0, hs1, hs5⟩ : ∃ s0, g[0] = s0 ∧ 1 ≤ s0.size ∧ s0.size ≤ 5 := ⟨g[0], rfl, (hsz _ (List.getElem_mem _)).1, by have := (hsz _ (List.getElem_mem hpos)).2; omega⟩
  have HCELL := Lib.hid (fun (W : World) (hO : W.ownsRow w.heap.size 9 1 (.slice (some ⟨b, off, none⟩) g.length c2) g.length (sv g)) => show W.cell? ⟨b, off, none⟩ = some (.string s0) by
    have := (Rd.of_own hO).cell (sv_get g 0 hpos); rw [Nat.add_zero, hs0] at this; exact this)
  clear hown hr2 hg2 HG1 HL1 HR1 hsz hs0 hbb
  go_wp2_with fail
  refine (pick_any l1 A1 c1 w.heap.size p2 w.heap.size g.length _ HR2.out HL2.out (Nat.le_refl _) (by omega) hll (by omega) (by omega)).mono ?_
  rintro e w3 ⟨v, rfl, hv, hr3, hg3⟩
  have HR3 := Lib.hid hr3
  have HL3 := Lib.hid (HL2.out.grown hg3 (Nat.le_of_lt HR2.out.lt) (fun g hg => by injection hg with hg; omega))
  have HG3 := Lib.hid (grown_trans HG2.out hg3)
  have HGx := Lib.hid hg3
  clear hr3 hg3 HL2 HG2
  have HO3 := Lib.hid (own_pick HO2.out HR2.out HGx.out (by decide))
  have hc3 := HCELL.out _ HO3.out
  clear HO2 HGx HR2
  go_wp2_with fail
  refine (pick_any l1 A1 c1 w.heap.size (p2 + 1) w.heap.size s0.size _ HR3.out HL3.out (Nat.le_refl _) (by omega) hll (by omega) (by omega)).mono ?_
  rintro e w4 ⟨u, rfl, hu, hr4, hg4⟩
  have HR4 := Lib.hid hr4
  have HL4 := Lib.hid (HL3.out.grown hg4 (Nat.le_of_lt HR3.out.lt) (fun g hg => by injection hg with hg; omega))
  have HG4 := Lib.hid (grown_trans HG3.out hg4)
  have HGx := Lib.hid hg4
  clear hr4 hg4 HL3 HG3
  have HO4 := Lib.hid (own_pick HO3.out HR3.out HGx.out (by decide))
  have hc4 := HCELL.out _ HO4.out
  clear HO3 HGx HR3 hc3
  have hv4 : v ≤ 4 := by omega
  have hu5 : u ≤ 5 := by omega
  have hwv : -100 ≤ IntKind.i64.wrap ((g.length : Int) - (v : Int)) ∧ IntKind.i64.wrap ((g.length : Int) - (v : Int)) ≤ 100 := by rw [IntWalk.i64_in _ (by omega)]; omega
  have hwu : -100 ≤ IntKind.i64.wrap ((s0.size : Int) - (u : Int)) ∧ IntKind.i64.wrap ((s0.size : Int) - (u : Int)) ≤ 100 := by rw [IntWalk.i64_in _ (by omega)]; omega
  obtain ⟨hwv1, hwv2⟩ := hwv
  obtain ⟨hwu1, hwu2⟩ := hwu
  have hk := (Below.refl w4.heap.size w4).drew
  have HR5 := Lib.hid (HR4.out.below hk)
  have HL5 := Lib.hid (HL4.out.below (hk.mono (Nat.le_trans HG4.out.size (Nat.le_refl _))))
  have HO5 := Lib.hid (own_keep HO4.out hk)
  have HG5 := Lib.hid (grown_below HG4.out hk)
  clear hk hv hu HR4 HL4 HO4 HG4
  go_wp2_with fail
  go_region_held3 (fun w' => w'.cell? ⟨b, off, none⟩ = some (.string s0))
    (first | go_keep | exact hc4 | exact hc9 | exact hc8 | exact hc7 | exact hc6)
    (first | (go_at_call 30; refine (pick_any l1 A1 c1 w.heap.size (p2 + 1 + 1 + 1 + 1 + 1) w.heap.size _ _ HR8.out HL8.out (Nat.le_refl _) (by omega) hll (by omega) (by omega)).mono ?_; rintro e w9 ⟨x4, rfl, hx4, hr9, hg9⟩; have HO9 := Lib.hid (own_pick HO8.out HR8.out hg9 (by decide)); have HL9 := Lib.hid (HL8.out.grown hg9 (Nat.le_of_lt HR8.out.lt) (fun g hg => by injection hg with hg; omega)); have HR9 := Lib.hid hr9; have HG9 := Lib.hid (grown_trans HG8.out hg9); have hc9 := HCELL.out _ HO9.out; clear hr9 hg9 hx4) | (go_at_call 30; refine (pick_any l1 A1 c1 w.heap.size (p2 + 1 + 1 + 1 + 1) w.heap.size _ _ HR7.out HL7.out (Nat.le_refl _) (by omega) hll (by omega) (by omega)).mono ?_; rintro e w8 ⟨x3, rfl, hx3, hr8, hg8⟩; have HO8 := Lib.hid (own_pick HO7.out HR7.out hg8 (by decide)); have HL8 := Lib.hid (HL7.out.grown hg8 (Nat.le_of_lt HR7.out.lt) (fun g hg => by injection hg with hg; omega)); have HR8 := Lib.hid hr8; have HG8 := Lib.hid (grown_trans HG7.out hg8); have hc8 := HCELL.out _ HO8.out; clear hr8 hg8 hx3) | (go_at_call 30; refine (pick_any l1 A1 c1 w.heap.size (p2 + 1 + 1 + 1) w.heap.size _ _ HR6.out HL6.out (Nat.le_refl _) (by omega) hll (by omega) (by omega)).mono ?_; rintro e w7 ⟨x2, rfl, hx2, hr7, hg7⟩; have HO7 := Lib.hid (own_pick HO6.out HR6.out hg7 (by decide)); have HL7 := Lib.hid (HL6.out.grown hg7 (Nat.le_of_lt HR6.out.lt) (fun g hg => by injection hg with hg; omega)); have HR7 := Lib.hid hr7; have HG7 := Lib.hid (grown_trans HG6.out hg7); have hc7 := HCELL.out _ HO7.out; clear hr7 hg7 hx2) | (go_at_call 30; refine (pick_any l1 A1 c1 w.heap.size (p2 + 1 + 1) w.heap.size _ _ HR5.out HL5.out (Nat.le_refl _) (by omega) hll (by omega) (by omega)).mono ?_; rintro e w6 ⟨x1, rfl, hx1, hr6, hg6⟩; have HO6 := Lib.hid (own_pick HO5.out HR5.out hg6 (by decide)); have HL6 := Lib.hid (HL5.out.grown hg6 (Nat.le_of_lt HR5.out.lt) (fun g hg => by injection hg with hg; omega)); have HR6 := Lib.hid hr6; have HG6 := Lib.hid (grown_trans HG5.out hg6); have hc6 := HCELL.out _ HO6.out; clear hr6 hg6 hx1))
  have HB := Lib.hid ((Below.refl w.heap.size w).grown HG9.out (Nat.le_refl _) (fun k hk => by injection hk with hk; omega))
  go_wp2
  (try simp only [Exit.inBlock, Exit.then]); refine bodyPost_ret (results_tmp5 rfl _ _ _) rfl ?_
  exact ⟨g, _, c2, _, _, _, _, rfl, Rd.of_own HO9.out, ⟨hlo, hhi, HSZ.out⟩, HB.out, (own_cap HO9.out).1⟩
end Go.Proofs.Ythjllnabjnjpmaa
