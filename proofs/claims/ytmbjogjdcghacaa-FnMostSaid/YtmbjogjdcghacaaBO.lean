/-
  CONTRACTS: RoundMany, RoundPaths, RoundLeast, RoundAt, RoundTwice of the program and of the reference.
-/
import Derived.Test.YtmbjogjdcghacaaBS
import Derived.Deep.RegionHeld3
namespace Go.Proofs.Ytmbjogjdcghacaa
open Go.RowKit

noncomputable def roundsA (g : List ByteArray) : Nat := if gridB g then (fld g).leads.length else 0
theorem leads_100 {g : List ByteArray} (hg : gridB g = true) : (fld g).leads.length ≤ 100 := by
  have h := leadsTo_le (fld g) (4 * ((fld g).n * (fld g).m))
  rw [leadsTo_all, cells_fld] at h
  have := cells_25 hg
  omega
theorem roundsA_le (g : List ByteArray) : roundsA g ≤ 100 := by
  unfold roundsA
  cases hg : gridB g
  · exact Nat.zero_le _
  · exact leads_100 hg
theorem roundsA_no {g : List ByteArray} (h : gridB g = false) : roundsA g = 0 := by unfold roundsA; rw [h]; rfl
theorem roundsA_yes {g : List ByteArray} (h : gridB g = true) : roundsA g = (fld g).leads.length := by unfold roundsA; rw [h]; rfl
noncomputable def pathsA (g : List ByteArray) : Nat := if gridB g then (fld g).leads.length + g.length + width g else 0
theorem pathsA_no {g : List ByteArray} (h : gridB g = false) : pathsA g = 0 := by unfold pathsA; rw [h]; rfl
theorem pathsA_yes {g : List ByteArray} (h : gridB g = true) : pathsA g = (fld g).leads.length + g.length + width g := by unfold pathsA; rw [h]; rfl
noncomputable def leastA (g : List ByteArray) : Nat := if gridB g then ((fld g).leastO).getD 0 else 0
noncomputable def leastB (g : List ByteArray) : Bool := gridB g && ((fld g).leastO).isSome
theorem leastB_iff {g : List ByteArray} : leastB g = true ↔ gridB g = true ∧ ((fld g).leastO).isSome = true := by unfold leastB; rw [Bool.and_eq_true]
theorem least_no {g : List ByteArray} (h : gridB g = false) : leastA g = 0 ∧ leastB g = false := by unfold leastA leastB; rw [h]; exact ⟨rfl, rfl⟩
theorem least_is {g : List ByteArray} (h : gridB g = true) {c : Nat} (hc : (fld g).leastO = some c) : leastA g = c ∧ leastB g = true := by unfold leastA leastB; rw [h, hc]; exact ⟨rfl, rfl⟩
theorem least_not {g : List ByteArray} (h : gridB g = true) (hc : (fld g).leastO = none) : leastA g = 0 ∧ leastB g = false := by unfold leastA leastB; rw [h, hc]; exact ⟨rfl, rfl⟩
def atB (g : List ByteArray) (c : Int) : Bool := gridB g && inB c 0 ((cellsN g : Int) - 1)
noncomputable def atA (g : List ByteArray) (c : Int) : Nat := if atB g c then (fld g).times c.toNat else 0
theorem atA_no {g : List ByteArray} {c : Int} (h : atB g c = false) : atA g c = 0 := by unfold atA; rw [h]; rfl
theorem atA_yes {g : List ByteArray} {c : Nat} (h : atB g (c : Nat) = true) : atA g (c : Nat) = (fld g).times c := by unfold atA; rw [h]; rfl
theorem atB_nat {g : List ByteArray} {c : Int} (h : atB g c = true) : gridB g = true ∧ ∃ k : Nat, c = (k : Nat) ∧ k < cellsN g := by
  unfold atB at h
  rw [Bool.and_eq_true] at h
  have h2 := inB_iff.1 h.2
  exact ⟨h.1, c.toNat, by omega, by omega⟩
theorem atB_yes {g : List ByteArray} (hg : gridB g = true) {c : Nat} (hc : c < cellsN g) : atB g (c : Nat) = true := by
  unfold atB; rw [hg, inB_yes ⟨by omega, by omega⟩]; rfl
theorem atB_no1 {g : List ByteArray} {c : Int} (h : gridB g = false) : atB g c = false := by unfold atB; rw [h]; rfl
theorem atB_no2 {g : List ByteArray} {c : Int} (h : inB c 0 ((cellsN g : Int) - 1) = false) : atB g c = false := by unfold atB; rw [h, Bool.and_false]
noncomputable def twosA (g : List ByteArray) : Nat := if gridB g then (fld g).twos else 0
theorem twosA_no {g : List ByteArray} (h : gridB g = false) : twosA g = 0 := by unfold twosA; rw [h]; rfl
theorem twosA_yes {g : List ByteArray} (h : gridB g = true) : twosA g = cntB (cellsN g) fun c => (fld g).times c == 2 := by unfold twosA; rw [h]; rfl

theorem roundMany_any (A : Option Addr) (c : Nat) (g : List ByteArray) (w : World) (hr : Rd w w.heap.size A (sv g)) (hg : gridB g = true) :
    Calls Try.prog 51 #[.slice A g.length c] w fun e w' => e = .returned (.int .i64 ((fld g).leads.length : Nat)) ∧ Below w.heap.size w w' := by
  have HP := Lib.hid (allPaths_any A c g w hr hg)
  clear hr hg
  go_enter Try.func51, Try.ntmps51
  go_wp2_with fail
  refine HP.out.mono ?_
  rintro e w1 ⟨M, A1, c1, vs, rfl, ho, _, hb⟩
  clear ho
  go_wp2
  go_ret
  exact ⟨rfl, hb⟩
theorem iRoundMany_any (A : Option Addr) (c : Nat) (g : List ByteArray) (w : World) (hr : Rd w w.heap.size A (sv g)) (hm : g.length ≤ maxLen) (hs : ∀ s ∈ g, s.size ≤ maxLen) :
    Calls Try.prog 27 #[.slice A g.length c] w fun e w' => e = .returned (.tuple #[.int .i64 (roundsA g : Nat), .bool (gridB g)]) ∧ Below w.heap.size w w' := by
  have hG := iGridIn_any A c g w _ hr hm hs
  cases hg : gridB g
  · rw [hg] at hG
    have HG := Lib.hid hG
    have HN := Lib.hid (roundsA_no hg)
    clear hG hg hr hm hs
    go_enter Try.func27, Try.ntmps27
    go_wp2_with fail
    refine HG.out.mono ?_
    rintro e w' ⟨rfl, rfl⟩
    go_wp2
    go_ret2
    exact ⟨by rw [HN.out]; rfl, Below.refl _ _⟩
  · rw [hg] at hG
    have HG := Lib.hid hG
    have HN := Lib.hid (roundsA_yes hg)
    have HP := Lib.hid (roundMany_any A c g w hr hg)
    clear hG hg hr hm hs
    go_enter Try.func27, Try.ntmps27
    go_wp2_with fail
    refine HG.out.mono ?_
    rintro e w' ⟨rfl, rfl⟩
    go_wp2_with fail
    refine HP.out.mono ?_
    rintro e w1 ⟨rfl, hb⟩
    go_wp2
    go_ret2
    exact ⟨by rw [HN.out]; rfl, hb⟩
theorem sRoundMany_any (A : Option Addr) (c : Nat) (g : List ByteArray) (w : World) (hr : Rd w w.heap.size A (sv g)) (hm : g.length ≤ maxLen) (hs : ∀ s ∈ g, s.size ≤ maxLen) :
    Calls Try.prog 26 #[.slice A g.length c] w fun e w' => e = .returned (.tuple #[.int .i64 (roundsA g : Nat), .bool (gridB g)]) ∧ Below w.heap.size w w' := by
  have hG := sGridIn_any A c g w _ hr hm hs
  cases hg : gridB g
  · rw [hg] at hG
    have HG := Lib.hid hG
    have HN := Lib.hid (roundsA_no hg)
    clear hG hg hr hm hs
    go_enter Try.func26, Try.ntmps26
    go_wp2_with fail
    refine HG.out.mono ?_
    rintro e w' ⟨rfl, hd⟩
    go_wp2
    go_ret2
    exact ⟨by rw [HN.out]; rfl, hd.below _⟩
  · rw [hg] at hG
    have HG := Lib.hid hG
    have HN := Lib.hid (show (ni (fld g).lens).length = roundsA g by rw [roundsA_yes hg, ni_length]; unfold Fd.lens; rw [List.length_map])
    have HP := Lib.hid (fun w hr => l3Rounds_any A c g w hr hg)
    clear hG hg hm hs
    go_enter Try.func26, Try.ntmps26
    go_wp2_with fail
    refine HG.out.mono ?_
    rintro e w' ⟨rfl, hd⟩
    have HP1 := Lib.hid (HP.out _ (hr.later (hd.below _)))
    clear hr
    go_wp2_with fail
    refine HP1.out.mono ?_
    rintro e w1 ⟨A1, c1, rfl, ho, hb⟩
    clear ho
    go_wp2
    go_ret2
    exact ⟨by rw [← HN.out]; rfl, below_next (hd.below _) hb⟩
theorem pathMany_any (A : Option Addr) (c : Nat) (g : List ByteArray) (w : World) (hr : Rd w w.heap.size A (sv g)) (hg : gridB g = true) :
    Calls Try.prog 53 #[.slice A g.length c] w fun e w' => e = .returned (.int .i64 ((fld g).leads.length + g.length + width g : Nat)) ∧ Below w.heap.size w w' := by
  have hL := leads_100 hg
  obtain ⟨gl1, gl2⟩ := grid_len hg
  obtain ⟨gw1, gw2⟩ := grid_width hg
  obtain ⟨b, off, rfl, hbb, _⟩ := hr.at_ (sv_get g 0 (by omega))
  obtain ⟨s0, hc0, hz0⟩ : ∃ s0 : ByteArray, w.cell? ⟨b, off, none⟩ = some (.string s0) ∧ s0.size = width g := ⟨g[0], by have := hr.cell (sv_get g 0 (by omega)); rw [Nat.add_zero] at this; exact this, grid_row hg 0 (by omega)⟩
  have hz5 : s0.size ≤ 5 := by omega
  have HZ := Lib.hid hz0
  have HPD := Lib.hid (roundMany_any (some ⟨b, off, none⟩) c g (World.drew w) (show Rd (World.drew w) (World.drew w).heap.size (some ⟨b, off, none⟩) (sv g) from hr) hg)
  have hpos : 0 < g.length := by omega
  clear hr hg hz0 gw1 gw2
  generalize (fld g).leads.length = K at *
  go_enter Try.func53, Try.ntmps53
  go_wp2_with fail
  go_region_held3 (fun w' => w'.cell? ⟨b, off, none⟩ = some (.string s0))
    (first | go_keep | exact hc0 | exact hc1)
    (first | (go_at_call 51; refine HPD.out.mono ?_; rintro e w1 ⟨rfl, hb⟩; have hc1 : w1.cell? ⟨b, off, none⟩ = some (.string s0) := (hb.cell (p := ⟨b, off, none⟩) hbb).trans hc0))
  go_wp2
  go_ret
  have hval : IntKind.i64.wrap (IntKind.i64.wrap ((K : Int) + (g.length : Int)) + (s0.size : Int)) = ((K + g.length + width g : Nat) : Int) := by
    rw [IntWalk.i64_in ((K : Int) + (g.length : Int)) (by omega), IntWalk.i64_in _ (by omega), HZ.out]; omega
  exact ⟨by rw [← hval]; rfl, ((Below.refl _ w).drew).trans hb⟩
theorem iRoundPaths_any (A : Option Addr) (c : Nat) (g : List ByteArray) (w : World) (hr : Rd w w.heap.size A (sv g)) (hm : g.length ≤ maxLen) (hs : ∀ s ∈ g, s.size ≤ maxLen) :
    Calls Try.prog 29 #[.slice A g.length c] w fun e w' => e = .returned (.tuple #[.int .i64 (pathsA g : Nat), .bool (gridB g)]) ∧ Below w.heap.size w w' := by
  have hG := iGridIn_any A c g w _ hr hm hs
  cases hg : gridB g
  · rw [hg] at hG
    have HG := Lib.hid hG
    have HN := Lib.hid (pathsA_no hg)
    clear hG hg hr hm hs
    go_enter Try.func29, Try.ntmps29
    go_wp2_with fail
    refine HG.out.mono ?_
    rintro e w' ⟨rfl, rfl⟩
    go_wp2
    go_ret2
    exact ⟨by rw [HN.out]; rfl, Below.refl _ _⟩
  · rw [hg] at hG
    have HG := Lib.hid hG
    have HN := Lib.hid (pathsA_yes hg)
    have HP := Lib.hid (pathMany_any A c g w hr hg)
    clear hG hg hr hm hs
    go_enter Try.func29, Try.ntmps29
    go_wp2_with fail
    refine HG.out.mono ?_
    rintro e w' ⟨rfl, rfl⟩
    go_wp2_with fail
    refine HP.out.mono ?_
    rintro e w1 ⟨rfl, hb⟩
    go_wp2
    go_ret2
    exact ⟨by rw [HN.out]; rfl, hb⟩
theorem l3Paths_any (A : Option Addr) (c : Nat) (g : List ByteArray) (w : World) (hr : Rd w w.heap.size A (sv g)) (hg : gridB g = true) :
    Calls Try.prog 52 #[.slice A g.length c] w fun e w' => e = .returned (.int .i64 ((fld g).leads.length + g.length + width g : Nat)) ∧ Below w.heap.size w w' := by
  have HN := Lib.hid (show (ni (fld g).lens).length = (fld g).leads.length by rw [ni_length]; unfold Fd.lens; rw [List.length_map])
  have hL := leads_100 hg
  obtain ⟨gl1, gl2⟩ := grid_len hg
  obtain ⟨gw1, gw2⟩ := grid_width hg
  obtain ⟨b, off, rfl, hbb, _⟩ := hr.at_ (sv_get g 0 (by omega))
  obtain ⟨s0, hc0, hz0⟩ : ∃ s0 : ByteArray, w.cell? ⟨b, off, none⟩ = some (.string s0) ∧ s0.size = width g := ⟨g[0], by have := hr.cell (sv_get g 0 (by omega)); rw [Nat.add_zero] at this; exact this, grid_row hg 0 (by omega)⟩
  have hz5 : s0.size ≤ 5 := by omega
  have HZ := Lib.hid hz0
  have HPD := Lib.hid (l3Rounds_any (some ⟨b, off, none⟩) c g (World.drew w) (show Rd (World.drew w) (World.drew w).heap.size (some ⟨b, off, none⟩) (sv g) from hr) hg)
  have hpos : 0 < g.length := by omega
  clear hr hg hz0 gw1 gw2
  generalize (fld g).leads.length = K at *
  generalize (fld g).lens = LL at *
  go_enter Try.func52, Try.ntmps52
  go_wp2_with fail
  go_region_held3 (fun w' => w'.cell? ⟨b, off, none⟩ = some (.string s0))
    (first | go_keep | exact hc0 | exact hc1)
    (first | (go_at_call 40; refine HPD.out.mono ?_; rintro e w1 ⟨A1, c1, rfl, ho, hb⟩; rw [HN.out]; clear ho; have hc1 : w1.cell? ⟨b, off, none⟩ = some (.string s0) := (hb.cell (p := ⟨b, off, none⟩) hbb).trans hc0))
  go_wp2
  go_ret
  have hval : IntKind.i64.wrap (IntKind.i64.wrap ((K : Int) + (g.length : Int)) + (s0.size : Int)) = ((K + g.length + width g : Nat) : Int) := by
    rw [IntWalk.i64_in ((K : Int) + (g.length : Int)) (by omega), IntWalk.i64_in _ (by omega), HZ.out]; omega
  exact ⟨by rw [← hval]; rfl, ((Below.refl _ w).drew).trans hb⟩
theorem sRoundPaths_any (A : Option Addr) (c : Nat) (g : List ByteArray) (w : World) (hr : Rd w w.heap.size A (sv g)) (hm : g.length ≤ maxLen) (hs : ∀ s ∈ g, s.size ≤ maxLen) :
    Calls Try.prog 28 #[.slice A g.length c] w fun e w' => e = .returned (.tuple #[.int .i64 (pathsA g : Nat), .bool (gridB g)]) ∧ Below w.heap.size w w' := by
  have hG := sGridIn_any A c g w _ hr hm hs
  cases hg : gridB g
  · rw [hg] at hG
    have HG := Lib.hid hG
    have HN := Lib.hid (pathsA_no hg)
    clear hG hg hr hm hs
    go_enter Try.func28, Try.ntmps28
    go_wp2_with fail
    refine HG.out.mono ?_
    rintro e w' ⟨rfl, hd⟩
    go_wp2
    go_ret2
    exact ⟨by rw [HN.out]; rfl, hd.below _⟩
  · rw [hg] at hG
    have HG := Lib.hid hG
    have HN := Lib.hid (pathsA_yes hg)
    have HP := Lib.hid (fun w hr => l3Paths_any A c g w hr hg)
    clear hG hg hm hs
    go_enter Try.func28, Try.ntmps28
    go_wp2_with fail
    refine HG.out.mono ?_
    rintro e w' ⟨rfl, hd⟩
    have HP1 := Lib.hid (HP.out _ (hr.later (hd.below _)))
    clear hr
    go_wp2_with fail
    refine HP1.out.mono ?_
    rintro e w1 ⟨rfl, hb⟩
    go_wp2
    go_ret2
    exact ⟨by rw [HN.out]; rfl, below_next (hd.below _) hb⟩
end Go.Proofs.Ytmbjogjdcghacaa
