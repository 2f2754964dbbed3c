/-
  CONTRACTS: l1Flip, l1Turn, GridFlip, GridTurn, GridOther of the reference.
-/
import Derived.Test.YtpgjnfleejleoaaM
namespace Go.Proofs.Ytpgjnfleejleoaa
open Go.RowKit


set_option maxHeartbeats 1000000 in
theorem l1Turn_any (A : Option Addr) (cp : Nat) (g : List ByteArray) (w : World) (hr : Rd w w.heap.size A (sv g)) (hg : gridB g = true) :
    Calls Try.prog 58 #[.slice A g.length cp] w (FreshS (gTurn g) w) := by
  obtain ⟨i0, hi, hz0, hz1, hz2⟩ := info_parts infoStr
  obtain ⟨j0, hj, hy0, hy1, hy2⟩ := info_parts infoU8
  have hlen := grid_len hg
  have hwid := grid_width hg
  obtain ⟨hlen1, hlen2⟩ := hlen
  obtain ⟨hwid1, hwid2⟩ := hwid
  have HG := Lib.hid hg
  have hwa : g[0].size ≤ width g := by rw [width_eq]; exact Nat.le_refl _
  have hwb : width g ≤ g[0].size := by rw [width_eq]; exact Nat.le_refl _
  clear hg
  obtain ⟨b, off, rfl, hb, _⟩ := hr.at_ (sv_get g 0 (by omega))
  go_enter Try.func58, Try.ntmps58
  go_wp2
  go_loopw [3, 4] (fun v i wr => ∃ (r : Nat), r ≤ (width g) ∧ i = .int .i64 r ∧ Hid (wr.ownsRow w.heap.size 9 1 v r (sv (mkG r g.length (fun r c => ex (cellAt g (g.length - 1 - c) r))))) ∧ Hid (Below w.heap.size w wr)) (fun _ i _ => (width g) - (intOf i).toNat)
  case atStart => exact ⟨0, Nat.zero_le _, rfl, own_empty w _, below_alloc1 w _⟩
  case round =>
    obtain ⟨r, hr', rfl, HO, HS⟩ := hrel
    have hrr := hr.below HS.out
    have hc0 := hrr.cell (sv_get g 0 (by omega))
    rw [Nat.add_zero] at hc0
    by_cases hlt : r < (width g)
    · obtain ⟨wo, rfl⟩ : ∃ wo : World, wo = wr := ⟨_, rfl⟩
      have hBo : w.heap.size ≤ wo.heap.size := HS.out.size
      have hdec : decide (r < g[0].size) = true := decide_eq_true (by omega)
      go_wp2
      go_loopw [5, 6] (fun v i wi => ∃ (c : Nat), c ≤ g.length ∧ i = .int .i64 (((g.length : Nat) : Int) - 1 - (c : Int)) ∧ Hid (wi.ownsRow wo.heap.size 5 1 v c (bv (rowOf c ((fun r c => ex (cellAt g (g.length - 1 - c) r)) r)))) ∧ Hid (wi.ownsRow w.heap.size 9 1 u3 r (sv (mkG r g.length (fun r c => ex (cellAt g (g.length - 1 - c) r))))) ∧ Hid (Below w.heap.size w wi) ∧ wo.heap.size ≤ wi.heap.size) (fun _ i _ => (intOf i + 1).toNat)
      case atStart => exact ⟨0, Nat.zero_le _, by go_num, own_empty wo _, HO.out.alloc _, HS.out.alloc HS.out.size _, by simp⟩
      case round =>
        obtain ⟨c, hc, rfl, HR, HO2, HS2, hBi⟩ := hrel
        by_cases hcl : c < g.length
        · obtain ⟨x, hx⟩ : ∃ x, x = g.length - 1 - c := ⟨_, rfl⟩
          have hsub : (g.length : Int) - 1 - (c : Int) = (x : Int) := by omega
          have hxl : x < g.length := by omega
          have hxs : r < g[x].size := by rw [grid_row HG.out x hxl]; omega
          have hx5 : g[x].size ≤ 5 := grid_small HG.out _ (List.getElem_mem _)
          have hcell := (hr.below HS2.out).cell (sv_get g x hxl)
          have HX := Lib.hid hx
          have HCE := Lib.hid (cellAt_eq hxl hxs)
          clear hx
          generalize g[x] = s at *
          have HFB := Lib.hid (show (fun r c => ex (cellAt g (g.length - 1 - c) r)) r c = ex (s[r]) from by show ex _ = _; rw [← HX.out, HCE.out])
          clear hr hrr
          go_wp2_with fail
          refine (l1Other_any _ _).mono ?_
          rintro e w' ⟨rfl, rfl⟩
          generalize hbb : ex (s[r]) = bb at *
          clear hbb
          go_wp2_with (at_builtin; refine wpList_append_own _ rfl _ _ 22 rfl (wo.heap.size) 5 j0 (.int .u8 0) 1 1 Try.underlying22 hj hy0 hy1 hy2 rfl (by decide) _ _ _ rfl ((HR.out).alloc _) ⟨(wr).heap.size, 0, none⟩ 1 1 [.int .u8 ((bb.toNat : Int))] rfl rfl ?c1 ?c2 ?c3 ?c4 ?c5 ?_)
          try case c1 => exact cell_one_new _ _ _
          try case c2 => simp [Value.oneCell']
          case c3 => simp only [maxLen]; omega
          case c4 => omega
          case c5 => first | omega | (simp; omega)
          intro v' w2 hown2 hgrow2 _
          have HO3 := Lib.hid (own_kept_ne (HO2.out.alloc (.cells #[.int .u8 (bb.toNat : Int)] 5)) (HR.out.alloc (.cells #[.int .u8 (bb.toNat : Int)] 5)) (by decide) hgrow2)
          have HS3 := Lib.hid (below_grown (HS2.out.alloc HS2.out.size (.cells #[.int .u8 (bb.toNat : Int)] 5)) hgrow2 (fun g hg => Nat.le_trans hBo (own_ge HR.out g hg)))
          have hB3 : wo.heap.size ≤ w2.heap.size := Nat.le_trans hBi (by have := hgrow2.size; simp at this; omega)
          have HR3 := Lib.hid hown2
          clear hown2 hgrow2 HO2 HR HS2
          go_wp2
          go_roundw
          case rel => exact ⟨c + 1, by omega, by go_num, (by rw [rowOf_succ, bv_snoc, HFB.out]; exact HR3.out), HO3.out, HS3.out, hB3⟩
          case measure => simp [intOf]; omega
        · have hcm : c = g.length := by omega
          obtain ⟨A', c', rfl, hc1, hc2⟩ := own_form HR.out
          have hcv := run_bytes_text (P := Try.prog) wr 22 9 5 Try.underlying22 Try.underlying5 Try.underlying9 A' c' _ _ (Rd.of_own HR.out)
          rw [rowOf_length] at hcv
          have HRW := Lib.hid (show rowOf c ((fun r c => ex (cellAt g (g.length - 1 - c) r)) r) = rowOf g.length ((fun r c => ex (cellAt g (g.length - 1 - c) r)) r) by rw [hcm])
          generalize rowOf c ((fun r c => ex (cellAt g (g.length - 1 - c) r)) r) = row at *
          have HCM := Lib.hid hcm
          clear hcm
          clear hr hrr
          go_wp2_with (at_builtin; refine wpList_append_own _ rfl _ _ 23 rfl (w.heap.size) 9 i0 (.string ⟨#[]⟩) 1 16 Try.underlying23 hi hz0 hz1 hz2 rfl (by decide) _ _ _ rfl ((HO2.out).alloc _) ⟨(wr).heap.size, 0, none⟩ 1 1 [.string (bs row)] rfl rfl ?c1 ?c2 ?c3 ?c4 ?c5 ?_)
          try case c1 => exact cell_one_new _ _ _
          try case c2 => simp [Value.oneCell']
          case c3 => simp only [maxLen]; omega
          case c4 => omega
          case c5 => first | omega | (simp; omega)
          intro v' w2 hown2 hgrow2 _
          have HS3 := Lib.hid (below_grown (HS2.out.alloc HS2.out.size (.cells #[.string (bs row)] 9)) hgrow2 (fun g hg => own_ge HO2.out g hg))
          have HO3 := Lib.hid hown2
          clear hown2 hgrow2 HO2 HR HS2 hcv HO HS
          go_wp2
          go_roundw
          case rel => exact ⟨r + 1, by omega, by go_num, (by rw [mkG_succ, sv_snoc, ← HRW.out]; exact HO3.out), HS3.out⟩
          case measure => simp [intOf]; omega
    · have hrn : r = (width g) := by omega
      obtain ⟨A', c', rfl, hc1, hc2⟩ := own_form HO.out
      have HRN := Lib.hid hrn
      clear hrn hr hrr
      go_wp2
      go_ret
      have hl : (gTurn g).length = width g := mkG_length _ _ _
      refine ⟨A', c', by rw [hl, ← HRN.out]; rfl, ?_, HS.out⟩
      have ho := HO.out
      rw [hl, HRN.out.symm]
      have e : gTurn g = mkG r g.length (fun r c => ex (cellAt g (g.length - 1 - c) r)) := by rw [HRN.out]; rfl
      rw [e]; exact ho



theorem sGridTurn_any (A : Option Addr) (cp : Nat) (g : List ByteArray) (w : World) (hr : Rd w w.heap.size A (sv g)) (hm : g.length ≤ maxLen) (hs : ∀ s ∈ g, s.size ≤ maxLen) :
    Calls Try.prog 17 #[.slice A g.length cp] w (FreshSB (orNone (gridB g) (gTurn g)) (gridB g) w) := by
  have hG := sGridIn_any A cp g _ _ hr hm hs
  cases hg : gridB g
  · rw [hg] at hG
    have HG := Lib.hid hG
    clear hg hG hm hs hr
    go_enter Try.func17, Try.ntmps17
    go_wp2_with fail
    refine HG.out.mono ?_
    rintro e w1 ⟨rfl, hd⟩
    go_wp2_with fail
    refine (l1None_any _).mono ?_
    rintro e w2 ⟨A2, c2, rfl, ho, hb⟩
    go_wp2
    go_ret2
    exact ⟨A2, c2, rfl, own_mono ho (hd.below 0).size, below_next (hd.below _) hb⟩
  · rw [hg] at hG
    have HGI := Lib.hid hG
    have HG := Lib.hid hg
    clear hg hG hm hs
    go_enter Try.func17, Try.ntmps17
    go_wp2_with fail
    refine HGI.out.mono ?_
    rintro e w1 ⟨rfl, hd⟩
    go_wp2_with fail
    refine (l1Turn_any _ _ _ _ (hr.later (hd.below _)) HG.out).mono ?_
    rintro e w2 ⟨A2, c2, rfl, ho, hb⟩
    go_wp2
    go_ret2
    exact ⟨A2, c2, rfl, own_mono ho (hd.below 0).size, below_next (hd.below _) hb⟩
end Go.Proofs.Ytpgjnfleejleoaa
