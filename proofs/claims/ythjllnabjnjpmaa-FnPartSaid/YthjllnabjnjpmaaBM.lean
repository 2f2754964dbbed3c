/-
  CONTRACTS: reversed, allPaths of the program.
-/
import Derived.Test.YthjllnabjnjpmaaBN
import Derived.Deep.RegionWith
namespace Go.Proofs.Ythjllnabjnjpmaa
set_option maxRecDepth 100000
open Go.RowKit

set_option maxHeartbeats 1600000 in
theorem reversed_any (A : Option Addr) (cp : Nat) (g : List ByteArray) (s : St) (w : World) (hr : Rd w w.heap.size A (sv g)) (hg : gridB g = true) (hs : (fld g).Ok s) :
    Calls Try.prog 61 #[.slice A g.length cp, stV (fld g) s] w fun e w' => e = .returned (stV (fld g) ((fld g).rev s)) ∧ Below w.heap.size w w' := by
  have hx25 := cell_25 hg hs
  have hL := fun w (hr : Rd w w.heap.size A (sv g)) => letterAt_any A cp g ((fld g).cellN s) w _ hr hg (by have := Fd.cellN_lt hs; rw [cells_fld] at this; exact this)
  rw [Fd.at_cell hs] at hL
  have hd4 : s.d < 4 := hs.2.2
  have ho4 := Fd.out_lt hs
  have hT := fun w => turned_any ((fld g).L s.r s.c) s.d hd4 w
  have ho : turnD ((fld g).L s.r s.c) s.d = (fld g).out s := rfl
  rw [ho] at hT
  have hrev : stV (fld g) ((fld g).rev s) = .agg #[.int .i64 ((fld g).cellN s : Nat), .int .i64 (((fld g).out s + 2) % 4 : Nat)] := rfl
  rw [hrev]
  unfold stV
  have HR := Lib.hid hr
  have HL := Lib.hid hL
  have HT := Lib.hid hT
  clear hr hL hT ho hrev hs hg
  generalize (fld g).L s.r s.c = lt at *
  generalize (fld g).out s = o at *
  generalize (fld g).cellN s = x at *
  generalize s.d = d at *
  obtain ⟨ee, hee⟩ : ∃ ee, (o + 2) % 4 = ee := ⟨_, rfl⟩
  rw [hee]
  have hmod : ((o : Int) + 2) % 4 = (ee : Int) := by omega
  have hval : (IntKind.i64.wrap ((o : Int) + 2)).tmod 4 = (ee : Int) := by rw [IntWalk.i64_in _ (by omega), ← hmod]; rfl
  clear hee
  go_enter Try.func61, Try.ntmps61
  go_wp2_with fail
  have hT2 := two_new w x d 77
  generalize ((w.alloc (.cells #[.int .i64 (x : Int), .int .i64 (d : Int)] 77)).alloc (.cells #[.int .i64 0, .int .i64 0] 77)) = W at *
  have HT2 := Lib.hid hT2
  obtain ⟨b0, b1, r0, r1, f0, f1, bl, sz⟩ := hT2
  have z0 : w.heap.size < W.heap.size := by omega
  have z1 : w.heap.size + 1 < W.heap.size := by omega
  have HLW := Lib.hid (HL.out (World.drew W) (HR.out.later HT2.out.bl.drew))
  go_region_held3 (fun w' => w'.cell? ⟨w.heap.size, 0, none⟩ = some (.int .i64 (x : Int)) ∧ w'.cell? ⟨w.heap.size, 1, none⟩ = some (.int .i64 (d : Int)))
    (first | go_keep | exact ⟨b0, b1⟩ | exact ⟨y0, y1⟩)
    (first
    | (go_at_call 72; refine HLW.out.mono ?_; rintro e w1 ⟨rfl, n1, rfl⟩)
    | (go_at_call 71; refine (HT.out _).mono ?_; rintro e w2 ⟨rfl, hb2⟩; obtain ⟨y0, y1, q0, q1, g0, g1, bl2, sz2⟩ := HT2.out.below ((below_drewN W _ W.heap.size).trans hb2)))
  all_goals go_wp2
  all_goals
    refine bodyPost_ret (v := .agg #[.int .i64 (x : Int), .int .i64 (ee : Int)]) (by simp [results, go_sem, q0, q1, hval]) rfl ⟨rfl, (bl2.setCell (by simp) _).setCell (by simp) _⟩
end Go.Proofs.Ythjllnabjnjpmaa
