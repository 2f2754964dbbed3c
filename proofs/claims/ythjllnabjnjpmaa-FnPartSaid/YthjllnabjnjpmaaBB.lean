/-
  CONTRACT: after: the next step of a beam, or the port where the grid is left.
-/
import Derived.Test.YthjllnabjnjpmaaBA
import Derived.BigRegion
import Derived.StillTailTactics
namespace Go.Proofs.Ythjllnabjnjpmaa
set_option maxRecDepth 100000
open Go.RowKit

def nextS (F : Fd) (s : St) : St := match F.exit s with | some _ => s | none => F.step s
/-- two new blocks of a step each -/
structure Two (w w' : World) (x d : Nat) : Prop where
  b0 : w'.cell? ⟨w.heap.size, 0, none⟩ = some (.int .i64 x)
  b1 : w'.cell? ⟨w.heap.size, 1, none⟩ = some (.int .i64 d)
  r0 : w'.cell? ⟨w.heap.size + 1, 0, none⟩ = some (.int .i64 0)
  r1 : w'.cell? ⟨w.heap.size + 1, 1, none⟩ = some (.int .i64 0)
  f0 : w'.frozen? ⟨w.heap.size + 1, 0, none⟩ = false
  f1 : w'.frozen? ⟨w.heap.size + 1, 1, none⟩ = false
  bl : Below w.heap.size w w'
  sz : w.heap.size + 2 ≤ w'.heap.size
theorem two_new (w : World) (x d T : Nat) : Two w ((w.alloc (.cells #[.int .i64 x, .int .i64 d] T)).alloc (.cells #[.int .i64 0, .int .i64 0] T)) x d := by
  refine ⟨by simp, by simp, by simp, by simp, by simp, by simp, (below_alloc1 w _).alloc (by simp) _, by simp⟩
theorem Two.below {w a b : World} {x d : Nat} (h : Two w a x d) (k : Below a.heap.size a b) : Two w b x d := by
  have hs := h.sz
  refine ⟨?_, ?_, ?_, ?_, ?_, ?_, below_next h.bl k, Nat.le_trans h.sz k.size⟩
  · rw [k.cell (by simp only; omega)]; exact h.b0
  · rw [k.cell (by simp only; omega)]; exact h.b1
  · rw [k.cell (by simp only; omega)]; exact h.r0
  · rw [k.cell (by simp only; omega)]; exact h.r1
  · rw [k.frozen (by simp only; omega)]; exact h.f0
  · rw [k.frozen (by simp only; omega)]; exact h.f1

set_option maxHeartbeats 800000 in
set_option maxRecDepth 100000 in
theorem after_any (A : Option Addr) (cp : Nat) (g : List ByteArray) (s : St) (w : World) (hr : Rd w w.heap.size A (sv g)) (hg : gridB g = true) (hs : (fld g).Ok s) :
    Calls Try.prog 66 #[.slice A g.length cp, stV (fld g) s] w fun e w' => e = .returned (.tuple #[stV (fld g) (nextS (fld g) s), .int .i64 (exitI (fld g) s)]) ∧ Below w.heap.size w w' := by
  obtain ⟨hl1, hl2⟩ := grid_len hg
  obtain ⟨hw1, hw2⟩ := grid_width hg
  obtain ⟨r, c, d⟩ := s
  have hs' := hs
  obtain ⟨hsr, hsc, hsd⟩ := hs
  have hsr : r < g.length := hsr
  have hsc : c < width g := hsc
  have hsd : d < 4 := hsd
  obtain ⟨b, off, rfl, hb, _⟩ := hr.at_ (sv_get g 0 (by omega))
  obtain ⟨s0, hc0, hz0⟩ : ∃ s0 : ByteArray, w.cell? ⟨b, off, none⟩ = some (.string s0) ∧ s0.size = width g := ⟨g[0], by have := hr.cell (sv_get g 0 (by omega)); rw [Nat.add_zero] at this; exact this, grid_row hg 0 (by omega)⟩
  obtain ⟨row, hcr, hzr, HL⟩ : ∃ row : ByteArray, w.cell? ⟨b, off + r, none⟩ = some (.string row) ∧ row.size = width g ∧ Hid (∀ h : c < row.size, cellAt g r c = row[c]) :=
    ⟨g[r], hr.cell (sv_get g r hsr), grid_row hg r hsr, fun h => cellAt_eq hsr h⟩
  have hpos : 0 < g.length := by omega
  have hcc : c < row.size := by omega
  clear hr
  obtain ⟨x, hx⟩ : ∃ x, r * width g + c = x := ⟨_, rfl⟩
  have hxb : x < 25 := by
    have := Fd.cell_lt hsr hsc
    have := (mul_bd hl2 hw2).1
    rw [← Int.natCast_mul] at this
    omega
  have hdiv : x / s0.size = r := by rw [hz0, ← hx, Nat.mul_comm, Nat.mul_add_div (by omega), Nat.div_eq_of_lt hsc]; omega
  have hmod : x % s0.size = c := by rw [hz0, ← hx, Nat.mul_comm, Nat.mul_add_mod, Nat.mod_eq_of_lt hsc]
  have d1 : (x : Int) / (s0.size : Int) = (r : Int) := by rw [← hdiv]; rfl
  have d2 : (x : Int) % (s0.size : Int) = (c : Int) := by rw [← hmod]; rfl
  have d3 : (x : Int).tdiv (s0.size : Int) = (r : Int) := by rw [← hdiv]; rfl
  have d4 : (x : Int).tmod (s0.size : Int) = (c : Int) := by rw [← hmod]; rfl
  have hc5 : c < 5 := by omega
  have hr5 : r < 5 := by omega
  have hnz : ¬ (s0.size = 0) := by omega
  have HV := Lib.hid (show stV (fld g) ⟨r, c, d⟩ = .agg #[.int .i64 x, .int .i64 d] by rw [← hx]; rfl)
  have hwr : IntKind.i64.wrap (r : Int) = (r : Int) := IntWalk.i64_in _ (by omega)
  have hsz : s0.size ≤ 5 := by omega
  have HM := Lib.hid hz0
  have HX := Lib.hid hx
  have HR := Lib.hid hzr
  clear hx hz0 hzr hdiv hmod
  rw [HV.out]
  have h4 := Fd.out_lt hs'
  obtain ⟨o, ho⟩ : ∃ o, (fld g).out ⟨r, c, d⟩ = o := ⟨_, rfl⟩
  rw [ho] at h4
  have ht : turnD row[c] d = o := by rw [← ho, ← HL.out hcc]; rfl
  have htu := fun w => turned_any row[c] d hsd w
  rw [ht] at htu
  have HT := Lib.hid htu
  have HO := Lib.hid ho
  have HG := Lib.hid hg
  have HS := Lib.hid hs'
  clear ht ho htu hg hs' hw1 hw2
  go_enter Try.func66, Try.ntmps66
  go_wp2_with fail
  go_quiet (fail)
  revert nq
  intro nq0
  go_wp2_with fail
  go_quiet (fail)
  go_wp2_with fail
  obtain ⟨wd, hwd⟩ : ∃ wd, wd = (((w.alloc (.cells #[.int .i64 x, .int .i64 d] 77)).alloc (.cells #[.int .i64 0, .int .i64 0] 77)).drewN nq0).drewN nq := ⟨_, rfl⟩
  have hT := (two_new w x d 77).below ((below_drewN _ nq0 _).trans (below_drewN _ nq _))
  rw [← hwd] at hT ⊢
  clear hwd
  have hb1 := hT.b1
  have hcr : wd.cell? ⟨b, off + r, none⟩ = some (.string row) := by rw [hT.bl.cell hb]; exact hcr
  have hbd : b < wd.heap.size := by have := hT.sz; omega
  have hwz : w.heap.size < wd.heap.size := by have := hT.sz; omega
  have HTW := Lib.hid hT
  clear hT hc0
  go_still_tail 8, (by kernel_rfl)
  change wpList _ _ _ _ _ wd.drew
  have hcd : c < row.size := hcc
  generalize hw2 : wd.drew = w2
  have hcr2 : w2.cell? ⟨b, off + r, none⟩ = some (.string row) := by rw [← hw2]; exact hcr
  go_wp2_with fail
  refine (HT.out _).mono ?_
  rintro e w1 ⟨rfl, hbw⟩
  rw [← hw2] at hbw
  have hT1 := HTW.out.below ((Below.refl _ wd).drew.trans hbw)
  obtain ⟨b0, b1, r0, r1, f0, f1, bl, sz⟩ := hT1
  have z0 : w.heap.size < w1.heap.size := by omega
  have z1 : w.heap.size + 1 < w1.heap.size := by omega
  clear HTW hbw hcr hb1 hbd hwz HT d1 d2 d3 d4 hwr hcr2 hw2
  have hcase : o = 0 ∨ o = 1 ∨ o = 2 ∨ o = 3 := by omega
  rcases hcase with rfl | rfl | rfl | rfl
  · by_cases hq : r = 0
    · have hqb : ((r : Int) == 0) = true := by rw [beq_iff_eq]; omega
      have he : (fld g).exit ⟨r, c, d⟩ = some (c) := by unfold Fd.exit; rw [HO.out]; rw [if_pos rfl, if_pos hq]
      have hE : ((c : Nat) : Int) = (c : Int) := by have h1 : (fld g).m = s0.size := HM.out.symm; have h2 : (fld g).n = g.length := rfl; omega
      have H := Lib.hid (show Value.tuple #[stV (fld g) (nextS (fld g) ⟨r, c, d⟩), .int .i64 (exitI (fld g) ⟨r, c, d⟩)] = .tuple #[.agg #[.int .i64 x, .int .i64 d], .int .i64 ((c : Int))] by
        unfold nextS exitI; rw [he]; simp only; rw [HV.out, ← hE])
      clear he hq hE
      go_wp2
      refine bodyPost_ret (v := .tuple #[.agg #[.int .i64 x, .int .i64 d], .int .i64 ((c : Int))]) (by simp [results, go_sem, r0, r1]) rfl ⟨by rw [H.out], (bl.setCell (by simp) _).setCell (by simp) _⟩
    · have hqb : ((r : Int) == 0) = false := by rw [beq_eq_false_iff_ne]; omega
      have he : (fld g).exit ⟨r, c, d⟩ = none := by unfold Fd.exit; rw [HO.out]; rw [if_pos rfl, if_neg hq]
      have H := Lib.hid (show Value.tuple #[stV (fld g) (nextS (fld g) ⟨r, c, d⟩), .int .i64 (exitI (fld g) ⟨r, c, d⟩)] = .tuple #[.agg #[.int .i64 ((x : Int) + -(s0.size : Int)), .int .i64 0], .int .i64 (-1)] by
        have hst := Fd.step_eq (F := fld g) ⟨r, c, d⟩ (by rw [HO.out]; decide)
        rw [HO.out] at hst
        unfold nextS exitI; rw [he]; simp only; rw [hst]; unfold stV Fd.cellN; simp only
        have h1 : (fld g).m = s0.size := HM.out.symm
        rw [h1, ← HX.out, HM.out]
        obtain ⟨k, hk⟩ : ∃ k, r = k + 1 := ⟨r - 1, by omega⟩
        rw [hk]; congr 5; simp [Nat.succ_mul] <;> omega)
      clear he hq
      go_wp2
      go_region
      all_goals
        go_wp2
        refine bodyPost_ret (v := .tuple #[.agg #[.int .i64 ((x : Int) + -(s0.size : Int)), .int .i64 0], .int .i64 (-1)]) (by simp [results, go_sem, World.cell?_alloc_lt, r0, r1, z1]) rfl ⟨by rw [H.out], ?_⟩
        exact (((bl.setCell (by simp) _).setCell (by simp) _).alloc (by simp [World.setCell]; omega) _).drew
  · by_cases hq : c + 1 = s0.size
    · have hqb : ((c : Int) == (s0.size : Int) - 1) = true := by rw [beq_iff_eq]; omega
      have he : (fld g).exit ⟨r, c, d⟩ = some ((fld g).m + r) := by unfold Fd.exit; rw [HO.out]; rw [if_neg (by decide), if_pos rfl, if_pos (by show c + 1 = width g; rw [← HM.out]; exact hq)]
      have hE : (((fld g).m + r : Nat) : Int) = (s0.size : Int) + (r : Int) := by have h1 : (fld g).m = s0.size := HM.out.symm; have h2 : (fld g).n = g.length := rfl; omega
      have H := Lib.hid (show Value.tuple #[stV (fld g) (nextS (fld g) ⟨r, c, d⟩), .int .i64 (exitI (fld g) ⟨r, c, d⟩)] = .tuple #[.agg #[.int .i64 x, .int .i64 d], .int .i64 ((s0.size : Int) + (r : Int))] by
        unfold nextS exitI; rw [he]; simp only; rw [HV.out, ← hE])
      clear he hq hE
      go_wp2
      refine bodyPost_ret (v := .tuple #[.agg #[.int .i64 x, .int .i64 d], .int .i64 ((s0.size : Int) + (r : Int))]) (by simp [results, go_sem, r0, r1]) rfl ⟨by rw [H.out], (bl.setCell (by simp) _).setCell (by simp) _⟩
    · have hqb : ((c : Int) == (s0.size : Int) - 1) = false := by rw [beq_eq_false_iff_ne]; omega
      have he : (fld g).exit ⟨r, c, d⟩ = none := by unfold Fd.exit; rw [HO.out]; rw [if_neg (by decide), if_pos rfl, if_neg (by show ¬ c + 1 = width g; rw [← HM.out]; exact hq)]
      have H := Lib.hid (show Value.tuple #[stV (fld g) (nextS (fld g) ⟨r, c, d⟩), .int .i64 (exitI (fld g) ⟨r, c, d⟩)] = .tuple #[.agg #[.int .i64 ((x : Int) + 1), .int .i64 1], .int .i64 (-1)] by
        have hst := Fd.step_eq (F := fld g) ⟨r, c, d⟩ (by rw [HO.out]; decide)
        rw [HO.out] at hst
        unfold nextS exitI; rw [he]; simp only; rw [hst]; unfold stV Fd.cellN; simp only
        have h1 : (fld g).m = s0.size := HM.out.symm
        rw [h1, ← HX.out, HM.out]
        first | rfl | (congr 5; simp <;> omega))
      clear he hq
      go_wp2
      go_region
      all_goals
        go_wp2
        refine bodyPost_ret (v := .tuple #[.agg #[.int .i64 ((x : Int) + 1), .int .i64 1], .int .i64 (-1)]) (by simp [results, go_sem, World.cell?_alloc_lt, r0, r1, z1]) rfl ⟨by rw [H.out], ?_⟩
        exact (((bl.setCell (by simp) _).setCell (by simp) _).alloc (by simp [World.setCell]; omega) _).drew
  · by_cases hq : r + 1 = g.length
    · have hqb : ((r : Int) == (g.length : Int) - 1) = true := by rw [beq_iff_eq]; omega
      have he : (fld g).exit ⟨r, c, d⟩ = some (2 * (fld g).m + (fld g).n - 1 - c) := by unfold Fd.exit; rw [HO.out]; rw [if_neg (by decide), if_neg (by decide), if_pos rfl, if_pos (show r + 1 = (fld g).n from hq)]
      have hE : ((2 * (fld g).m + (fld g).n - 1 - c : Nat) : Int) = (s0.size : Int) + (g.length : Int) + (s0.size : Int) - 1 - (c : Int) := by have h1 : (fld g).m = s0.size := HM.out.symm; have h2 : (fld g).n = g.length := rfl; omega
      have H := Lib.hid (show Value.tuple #[stV (fld g) (nextS (fld g) ⟨r, c, d⟩), .int .i64 (exitI (fld g) ⟨r, c, d⟩)] = .tuple #[.agg #[.int .i64 x, .int .i64 d], .int .i64 ((s0.size : Int) + (g.length : Int) + (s0.size : Int) - 1 - (c : Int))] by
        unfold nextS exitI; rw [he]; simp only; rw [HV.out, ← hE])
      clear he hq hE
      go_wp2
      refine bodyPost_ret (v := .tuple #[.agg #[.int .i64 x, .int .i64 d], .int .i64 ((s0.size : Int) + (g.length : Int) + (s0.size : Int) - 1 - (c : Int))]) (by simp [results, go_sem, r0, r1]) rfl ⟨by rw [H.out], (bl.setCell (by simp) _).setCell (by simp) _⟩
    · have hqb : ((r : Int) == (g.length : Int) - 1) = false := by rw [beq_eq_false_iff_ne]; omega
      have he : (fld g).exit ⟨r, c, d⟩ = none := by unfold Fd.exit; rw [HO.out]; rw [if_neg (by decide), if_neg (by decide), if_pos rfl, if_neg (show ¬ r + 1 = (fld g).n from hq)]
      have H := Lib.hid (show Value.tuple #[stV (fld g) (nextS (fld g) ⟨r, c, d⟩), .int .i64 (exitI (fld g) ⟨r, c, d⟩)] = .tuple #[.agg #[.int .i64 ((x : Int) + (s0.size : Int)), .int .i64 2], .int .i64 (-1)] by
        have hst := Fd.step_eq (F := fld g) ⟨r, c, d⟩ (by rw [HO.out]; decide)
        rw [HO.out] at hst
        unfold nextS exitI; rw [he]; simp only; rw [hst]; unfold stV Fd.cellN; simp only
        have h1 : (fld g).m = s0.size := HM.out.symm
        rw [h1, ← HX.out, HM.out]
        congr 5; simp [Nat.succ_mul] <;> omega)
      clear he hq
      go_wp2
      go_region
      all_goals
        go_wp2
        refine bodyPost_ret (v := .tuple #[.agg #[.int .i64 ((x : Int) + (s0.size : Int)), .int .i64 2], .int .i64 (-1)]) (by simp [results, go_sem, World.cell?_alloc_lt, r0, r1, z1]) rfl ⟨by rw [H.out], ?_⟩
        exact (((bl.setCell (by simp) _).setCell (by simp) _).alloc (by simp [World.setCell]; omega) _).drew
  · by_cases hq : c = 0
    · have hqb : ((c : Int) == 0) = true := by rw [beq_iff_eq]; omega
      have he : (fld g).exit ⟨r, c, d⟩ = some (2 * (fld g).m + 2 * (fld g).n - 1 - r) := by unfold Fd.exit; rw [HO.out]; rw [if_neg (by decide), if_neg (by decide), if_neg (by decide), if_pos hq]
      have hE : ((2 * (fld g).m + 2 * (fld g).n - 1 - r : Nat) : Int) = 2 * (s0.size : Int) + (g.length : Int) + (g.length : Int) - 1 - (r : Int) := by have h1 : (fld g).m = s0.size := HM.out.symm; have h2 : (fld g).n = g.length := rfl; omega
      have H := Lib.hid (show Value.tuple #[stV (fld g) (nextS (fld g) ⟨r, c, d⟩), .int .i64 (exitI (fld g) ⟨r, c, d⟩)] = .tuple #[.agg #[.int .i64 x, .int .i64 d], .int .i64 (2 * (s0.size : Int) + (g.length : Int) + (g.length : Int) - 1 - (r : Int))] by
        unfold nextS exitI; rw [he]; simp only; rw [HV.out, ← hE])
      clear he hq hE
      go_wp2
      refine bodyPost_ret (v := .tuple #[.agg #[.int .i64 x, .int .i64 d], .int .i64 (2 * (s0.size : Int) + (g.length : Int) + (g.length : Int) - 1 - (r : Int))]) (by simp [results, go_sem, r0, r1]) rfl ⟨by rw [H.out], (bl.setCell (by simp) _).setCell (by simp) _⟩
    · have hqb : ((c : Int) == 0) = false := by rw [beq_eq_false_iff_ne]; omega
      have he : (fld g).exit ⟨r, c, d⟩ = none := by unfold Fd.exit; rw [HO.out]; rw [if_neg (by decide), if_neg (by decide), if_neg (by decide), if_neg hq]
      have H := Lib.hid (show Value.tuple #[stV (fld g) (nextS (fld g) ⟨r, c, d⟩), .int .i64 (exitI (fld g) ⟨r, c, d⟩)] = .tuple #[.agg #[.int .i64 ((x : Int) + -1), .int .i64 3], .int .i64 (-1)] by
        have hst := Fd.step_eq (F := fld g) ⟨r, c, d⟩ (by rw [HO.out]; decide)
        rw [HO.out] at hst
        unfold nextS exitI; rw [he]; simp only; rw [hst]; unfold stV Fd.cellN; simp only
        have h1 : (fld g).m = s0.size := HM.out.symm
        rw [h1, ← HX.out, HM.out]
        obtain ⟨k, hk⟩ : ∃ k, c = k + 1 := ⟨c - 1, by omega⟩
        rw [hk]; congr 5; simp <;> omega)
      clear he hq
      go_wp2
      go_region
      all_goals
        go_wp2
        refine bodyPost_ret (v := .tuple #[.agg #[.int .i64 ((x : Int) + -1), .int .i64 3], .int .i64 (-1)]) (by simp [results, go_sem, World.cell?_alloc_lt, r0, r1, z1]) rfl ⟨by rw [H.out], ?_⟩
        exact (((bl.setCell (by simp) _).setCell (by simp) _).alloc (by simp [World.setCell]; omega) _).drew
end Go.Proofs.Ythjllnabjnjpmaa
