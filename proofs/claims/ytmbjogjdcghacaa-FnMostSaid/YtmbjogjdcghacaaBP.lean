/-
  CONTRACTS: full grids by their numbers; RoundMost of the program and of the reference.
-/
import Derived.Test.YtmbjogjdcghacaaBO
import Derived.Test.YtmbjogjdcghacaaPI
import Derived.Test.YtmbjogjdcghacaaY
import Derived.Lib.RabinKarpLaws
namespace Go.Proofs.Ytmbjogjdcghacaa
open Go.RowKit

def mirL (m b r c : Nat) : UInt8 := bitL b (r * m + c)
theorem mir_grid {n m : Nat} (hn : 1 ≤ n) (hn5 : n ≤ 5) (hm : 1 ≤ m) (hm5 : m ≤ 5) (b : Nat) : gridB (mkG n m (mirL m b)) = true :=
  grid_mk ⟨hn, hn5⟩ ⟨hm, hm5⟩ fun r c _ _ => by
    rcases bitL_full b (r * m + c) with e | e <;> (unfold mirL; rw [e]; rfl)
theorem mir_leads {n m : Nat} (hn : 1 ≤ n) (hm : 1 ≤ m) (b : Nat) : (fld (mkG n m (mirL m b))).leads.length = (fullF n m b).leads.length :=
  Fd.ext_leads (F := fullF n m b) (F' := fld (mkG n m (mirL m b))) hm (mkG_length _ _ _) (width_mk _ hn) fun _ _ hr hc => cell_mk _ hr hc
theorem bit_and (b k : Nat) (hb : b ≤ 1000000) : bits BinOp.and IntKind.i64 ((b : Int) / 2 ^ k) 1 = ((b / 2 ^ k % 2 : Nat) : Int) := by
  have e : (b : Int) / 2 ^ k = ((b / 2 ^ k : Nat) : Int) := by rw [Int.natCast_ediv, Int.natCast_pow]; rfl
  have h := Nat.div_le_self b (2 ^ k)
  rw [e, Go.Proofs.and_one _ (by omega)]
def mostB (n m : Int) : Bool := inB n 1 5 && inB m 1 5 && decide (n * m ≤ 9)
noncomputable def mostA (n m : Int) : Nat := if mostB n m then mostN n.toNat m.toNat else 0
theorem mostA_no {n m : Int} (h : mostB n m = false) : mostA n m = 0 := by unfold mostA; rw [h]; rfl
theorem mostA_yes {n m : Nat} (h : mostB (n : Nat) (m : Nat) = true) : mostA (n : Nat) (m : Nat) = mostN n m := by unfold mostA; rw [h]; rfl
theorem pow_512 {k : Nat} (h : k ≤ 9) : 2 ^ k ≤ 512 := Nat.pow_le_pow_right (by decide) h
theorem mostTo_25 {n m : Nat} (hn : n ≤ 5) (hm : 1 ≤ m) (hm5 : m ≤ 5) (B : Nat) : mostTo n m B ≤ 25 := by
  have h1 := mostTo_le n m hm B
  have h2 := Nat.mul_le_mul hn hm5
  omega
set_option maxHeartbeats 800000 in
theorem l3Mirrors_any (n m b : Nat) (w : World) (hn : n ≤ 5) (hm : m ≤ 5) (hb : b ≤ 1000000) :
    Calls Try.prog 41 #[.int .i64 n, .int .i64 m, .int .i64 b] w (FreshS (mkG n m (mirL m b)) w) := by
  obtain ⟨i0, hi, hz0, hz1, hz2⟩ := info_parts infoStr
  obtain ⟨j0, hj, hy0, hy1, hy2⟩ := info_parts infoU8
  go_enter Try.func41, Try.ntmps41
  go_wp2
  go_loopw [7, 8] (fun v i wr => ∃ (r : Nat), r ≤ n ∧ i = .int .i64 r ∧ Hid (wr.ownsRow w.heap.size 9 1 v r (sv (mkG r m (mirL m b)))) ∧ Hid (Below w.heap.size w wr)) (fun _ i _ => n - (intOf i).toNat)
  case atStart => exact ⟨0, Nat.zero_le _, rfl, own_empty w _, below_alloc1 w _⟩
  case round =>
    obtain ⟨r, hr, rfl, HO, HS⟩ := hrel
    by_cases hlt : r < n
    · obtain ⟨wo, rfl⟩ : ∃ wo : World, wo = wr := ⟨_, rfl⟩
      go_wp2
      go_loopw [9, 10] (fun v i wi => ∃ (c : Nat), c ≤ m ∧ i = .int .i64 c ∧ Hid (wi.ownsRow wo.heap.size 5 1 v c (bv (rowOf c (mirL m b r)))) ∧ Hid (wi.ownsRow w.heap.size 9 1 u7 r (sv (mkG r m (mirL m b)))) ∧ Hid (Below w.heap.size w wi) ∧ wo.heap.size ≤ wi.heap.size) (fun _ i _ => m - (intOf i).toNat)
      case atStart => exact ⟨0, Nat.zero_le _, rfl, own_empty wo _, HO.out.alloc _, HS.out.alloc HS.out.size _, by simp⟩
      case round =>
        obtain ⟨c, hc, rfl, HR, HO2, HS2, hBi⟩ := hrel
        have hBo : w.heap.size ≤ wo.heap.size := HS.out.size
        by_cases hcl : c < m
        · have hmul := mul_bd (show r ≤ 5 by omega) hm
          obtain ⟨hmul1, hmul2⟩ := hmul
          rcases Nat.mod_two_eq_zero_or_one (b / 2 ^ (r * m + c)) with h2 | h2
          · have HT : Hid (mirL m b r c = 114) := by unfold mirL bitL; rw [if_pos h2]; rfl
            have hand : bits BinOp.and IntKind.i64 ((b : Int) / 2 ^ (r * m + c)) 1 = 0 := by rw [bit_and b _ hb, h2]; rfl
            clear h2
            go_wp2_with (at_builtin; refine wpList_append_own _ rfl _ _ 33 rfl (wo.heap.size) 5 j0 (.int .u8 0) 1 1 Try.underlying33 hj hy0 hy1 hy2 rfl (by decide) _ _ _ rfl ((HR.out).alloc _) ⟨(wr).heap.size, 0, none⟩ 1 1 [.int .u8 (114)] rfl rfl ?c1 ?c2 ?c3 ?c4 ?c5 ?_)
            try case c1 => exact cell_one_new _ _ _
            try case c2 => simp [Value.oneCell']
            case c3 => simp only [maxLen]; omega
            case c4 => omega
            case c5 => first | omega | (simp; omega)
            intro v' w2 hown2 hgrow2 _
            have HO3 := Lib.hid (own_kept_ne (HO2.out.alloc (.cells #[.int .u8 114] 5)) (HR.out.alloc (.cells #[.int .u8 114] 5)) (by decide) hgrow2)
            have HS3 := Lib.hid (below_grown (HS2.out.alloc HS2.out.size (.cells #[.int .u8 114] 5)) hgrow2 (fun g hg => Nat.le_trans hBo (own_ge HR.out g hg)))
            have hB3 : wo.heap.size ≤ w2.heap.size := Nat.le_trans hBi (by have := hgrow2.size; simp at this; omega)
            have HR3 := Lib.hid hown2
            clear hown2 hgrow2 HO2 HR HS2
            go_wp2
            go_roundw
            case rel => exact ⟨c + 1, by omega, by go_num, (by rw [rowOf_succ, bv_snoc, HT.out]; exact HR3.out), HO3.out, HS3.out, hB3⟩
            case measure => simp [intOf]; omega
          · have HT : Hid (mirL m b r c = 102) := by unfold mirL bitL; rw [if_neg (by omega)]; rfl
            have hand : bits BinOp.and IntKind.i64 ((b : Int) / 2 ^ (r * m + c)) 1 = 1 := by rw [bit_and b _ hb, h2]; rfl
            clear h2
            go_wp2_with (at_builtin; refine wpList_append_own _ rfl _ _ 33 rfl (wo.heap.size) 5 j0 (.int .u8 0) 1 1 Try.underlying33 hj hy0 hy1 hy2 rfl (by decide) _ _ _ rfl ((HR.out).alloc _) ⟨(wr).heap.size, 0, none⟩ 1 1 [.int .u8 (102)] rfl rfl ?c1 ?c2 ?c3 ?c4 ?c5 ?_)
            try case c1 => exact cell_one_new _ _ _
            try case c2 => simp [Value.oneCell']
            case c3 => simp only [maxLen]; omega
            case c4 => omega
            case c5 => first | omega | (simp; omega)
            intro v' w2 hown2 hgrow2 _
            have HO3 := Lib.hid (own_kept_ne (HO2.out.alloc (.cells #[.int .u8 102] 5)) (HR.out.alloc (.cells #[.int .u8 102] 5)) (by decide) hgrow2)
            have HS3 := Lib.hid (below_grown (HS2.out.alloc HS2.out.size (.cells #[.int .u8 102] 5)) hgrow2 (fun g hg => Nat.le_trans hBo (own_ge HR.out g hg)))
            have hB3 : wo.heap.size ≤ w2.heap.size := Nat.le_trans hBi (by have := hgrow2.size; simp at this; omega)
            have HR3 := Lib.hid hown2
            clear hown2 hgrow2 HO2 HR HS2
            go_wp2
            go_roundw
            case rel => exact ⟨c + 1, by omega, by go_num, (by rw [rowOf_succ, bv_snoc, HT.out]; exact HR3.out), HO3.out, HS3.out, hB3⟩
            case measure => simp [intOf]; omega
        · have hcm : c = m := by omega
          subst hcm
          obtain ⟨A, c', rfl, hc1, hc2⟩ := own_form HR.out
          have hcv := run_bytes_text (P := Try.prog) wr 33 9 5 Try.underlying33 Try.underlying5 Try.underlying9 A c' _ _ (Rd.of_own HR.out)
          rw [rowOf_length] at hcv
          go_wp2_with (at_builtin; refine wpList_append_own _ rfl _ _ 25 rfl (w.heap.size) 9 i0 (.string ⟨#[]⟩) 1 16 Try.underlying25 hi hz0 hz1 hz2 rfl (by decide) _ _ _ rfl ((HO2.out).alloc _) ⟨(wr).heap.size, 0, none⟩ 1 1 [.string (bs (rowOf c (mirL c b r)))] rfl rfl ?c1 ?c2 ?c3 ?c4 ?c5 ?_)
          try case c1 => exact cell_one_new _ _ _
          try case c2 => simp [Value.oneCell']
          case c3 => simp only [maxLen]; omega
          case c4 => omega
          case c5 => first | omega | (simp; omega)
          intro v' w2 hown2 hgrow2 _
          have HS3 := Lib.hid (below_grown (HS2.out.alloc HS2.out.size (.cells #[.string (bs (rowOf c (mirL c b r)))] 9)) hgrow2 (fun g hg => own_ge HO2.out g hg))
          have HO3 := Lib.hid hown2
          clear hown2 hgrow2 HO2 HR HS2 hcv HO HS
          go_wp2
          go_roundw
          case rel => exact ⟨r + 1, by omega, by go_num, (by rw [mkG_succ, sv_snoc]; exact HO3.out), HS3.out⟩
          case measure => simp [intOf]; omega
    · obtain rfl : r = n := by omega
      obtain ⟨A, c, rfl, hc1, hc2⟩ := own_form HO.out
      go_wp2
      go_ret
      have hl : (mkG r m (mirL m b)).length = r := mkG_length _ _ _
      exact ⟨A, c, by rw [hl]; rfl, by rw [hl]; exact HO.out, HS.out⟩
set_option maxHeartbeats 800000 in
theorem sRoundMost_any (n m : Int) (w : World) (hn0 : -9223372036854775808 ≤ n) (hn9 : n ≤ 9223372036854775807) (hm0 : -9223372036854775808 ≤ m) (hm9 : m ≤ 9223372036854775807) :
    Calls Try.prog 15 #[.int .i64 n, .int .i64 m] w fun e w' => e = .returned (.tuple #[.int .i64 (mostA n m : Nat), .bool (mostB n m)]) ∧ Below w.heap.size w w' := by
  cases hbn : inB n 1 5
  · have hB : mostB n m = false := by unfold mostB; rw [hbn]; rfl
    have H := Lib.hid (mostA_no hB)
    have HBB := Lib.hid hB
    have HB := Lib.hid hbn
    clear hbn hB
    go_enter Try.func15, Try.ntmps15
    go_wp2_with fail
    refine (l6In_b _ _ _ _ HB.out _).mono ?_
    rintro e w' ⟨rfl, rfl⟩
    go_wp2
    go_ret2
    exact ⟨by rw [H.out, HBB.out]; rfl, Below.refl _ _⟩
  cases hbm : inB m 1 5
  · have hB : mostB n m = false := by unfold mostB; rw [hbn, hbm]; rfl
    have H := Lib.hid (mostA_no hB)
    have HBB := Lib.hid hB
    have HB := Lib.hid hbn
    have HB2 := Lib.hid hbm
    clear hbn hbm hB
    go_enter Try.func15, Try.ntmps15
    go_wp2_with fail
    refine (l6In_b _ _ _ _ HB.out _).mono ?_
    rintro e w' ⟨rfl, rfl⟩
    go_wp2_with fail
    refine (l6In_b _ _ _ _ HB2.out _).mono ?_
    rintro e w' ⟨rfl, rfl⟩
    go_wp2
    go_ret2
    exact ⟨by rw [H.out, HBB.out]; rfl, Below.refl _ _⟩
  have hn := inB_iff.1 hbn
  have hm := inB_iff.1 hbm
  obtain ⟨n, rfl⟩ := Int.eq_ofNat_of_zero_le (show 0 ≤ n by omega)
  obtain ⟨m, rfl⟩ := Int.eq_ofNat_of_zero_le (show 0 ≤ m by omega)
  have hmul := mul_bd (show n ≤ 5 by omega) (show m ≤ 5 by omega)
  obtain ⟨hmul1, hmul2⟩ := hmul
  have HB := Lib.hid hbn
  have HB2 := Lib.hid hbm
  by_cases h9 : (n : Int) * (m : Int) ≤ 9
  · have hB : mostB (n : Nat) (m : Nat) = true := by unfold mostB; rw [hbn, hbm, decide_eq_true h9]; rfl
    have H := Lib.hid (mostA_yes hB)
    have HBB := Lib.hid hB
    have hnm : n * m ≤ 9 := by rw [← Int.natCast_mul] at h9; omega
    have hE5 := pow_512 hnm
    have HNN := Lib.hid (show mostN n m = mostTo n m (2 ^ (n * m)) from rfl)
    have hpw : (2 : Int) ^ (n * m) = ((2 ^ (n * m) : Nat) : Int) := by rw [Int.natCast_pow]; rfl
    have h9d : decide ((9 : Int) < (n : Int) * (m : Int)) = false := decide_eq_false (by omega)
    have h9n : ¬ ((9 : Int) < (n : Int) * (m : Int)) := by omega
    generalize hEE : 2 ^ (n * m) = E at *
    clear hbn hbm hB hEE
    go_enter Try.func15, Try.ntmps15
    go_wp2_with fail
    refine (l6In_b _ _ _ _ HB.out _).mono ?_
    rintro e w' ⟨rfl, rfl⟩
    go_wp2_with fail
    refine (l6In_b _ _ _ _ HB2.out _).mono ?_
    rintro e w' ⟨rfl, rfl⟩
    go_wp2
    go_loopw [6, 7] (fun t i wr => ∃ (b : Nat), b ≤ E ∧ i = .int .i64 b ∧ t = .int .i64 (mostTo n m b : Nat) ∧ Hid (Below w.heap.size w wr)) (fun _ i _ => E - (intOf i).toNat)
    case atStart => exact ⟨0, Nat.zero_le _, rfl, rfl, Below.refl _ _⟩
    case round =>
      obtain ⟨b, hb, rfl, rfl, HBW⟩ := hrel
      have hT25 := mostTo_25 (show n ≤ 5 by omega) (show 1 ≤ m by omega) (show m ≤ 5 by omega) b
      by_cases hlt : b < E
      · have HMI := Lib.hid (l3Mirrors_any n m b wr (by omega) (by omega) (by omega))
        have hgr := mir_grid (show 1 ≤ n by omega) (show n ≤ 5 by omega) (show 1 ≤ m by omega) (show m ≤ 5 by omega) b
        have HGR := Lib.hid hgr
        have hld := mir_leads (show 1 ≤ n by omega) (show 1 ≤ m by omega) b
        have HLD := Lib.hid (show (ni (fld (mkG n m (mirL m b))).lens).length = (fullF n m b).leads.length by rw [ni_length, ← hld]; unfold Fd.lens; rw [List.length_map])
        have hl100 := leads_100 hgr
        rw [hld] at hl100
        have HS := Lib.hid (show mostTo n m (b + 1) = max (mostTo n m b) (fullF n m b).leads.length from rfl)
        clear hgr hld
        generalize mkG n m (mirL m b) = gg at *
        generalize (fullF n m b).leads.length = K at *
        generalize hTT : mostTo n m b = T at *
        have HTT := Lib.hid hTT
        clear hTT
        have fin : ∀ wr2 : World, Below wr.heap.size wr wr2 → True := fun _ _ => trivial
        clear fin
        rcases Nat.lt_or_ge T K with hmx | hmx
        · have h1 : (T : Int) < (K : Int) := by omega
          have HS1 := Lib.hid (show mostTo n m (b + 1) = K by rw [HS.out]; omega)
          go_wp2_with fail
          refine HMI.out.mono ?_
          rintro e w2 ⟨A2, c2, rfl, ho2, hb2⟩
          have HRR := Lib.hid (l3Rounds_any A2 c2 gg w2 (Rd.of_own ho2) HGR.out)
          clear ho2
          go_wp2_with fail
          refine HRR.out.mono ?_
          rintro e w3 ⟨A3, c3, rfl, ho3, hb3⟩
          rw [HLD.out]
          clear ho3
          go_wp2
          go_roundw
          case rel => exact ⟨b + 1, by omega, by go_num, by (rw [HS1.out]; congr 1; omega), below_next HBW.out (below_next hb2 hb3)⟩
          case measure => simp [intOf]; omega
        · have h1 : ¬ ((T : Int) < (K : Int)) := by omega
          have h1d : decide ((T : Int) < (K : Int)) = false := decide_eq_false h1
          have HS1 := Lib.hid (show mostTo n m (b + 1) = T by rw [HS.out]; omega)
          go_wp2_with fail
          refine HMI.out.mono ?_
          rintro e w2 ⟨A2, c2, rfl, ho2, hb2⟩
          have HRR := Lib.hid (l3Rounds_any A2 c2 gg w2 (Rd.of_own ho2) HGR.out)
          clear ho2
          go_wp2_with fail
          refine HRR.out.mono ?_
          rintro e w3 ⟨A3, c3, rfl, ho3, hb3⟩
          rw [HLD.out]
          clear ho3
          go_wp2
          go_roundw
          case rel => exact ⟨b + 1, by omega, by go_num, by (rw [HS1.out]; congr 1; omega), below_next HBW.out (below_next hb2 hb3)⟩
          case measure => simp [intOf]; omega
      · have HK := Lib.hid (show mostTo n m b = mostN n m by rw [HNN.out, show b = E by omega])
        go_wp2
        go_ret2
        exact ⟨by rw [H.out, HBB.out, ← HK.out]; rfl, HBW.out⟩
  · have hB : mostB (n : Nat) (m : Nat) = false := by unfold mostB; rw [decide_eq_false h9, Bool.and_false]
    have H := Lib.hid (mostA_no hB)
    have HBB := Lib.hid hB
    have h9d : (9 : Int) < (n : Int) * (m : Int) := by omega
    clear hbn hbm hB
    go_enter Try.func15, Try.ntmps15
    go_wp2_with fail
    refine (l6In_b _ _ _ _ HB.out _).mono ?_
    rintro e w' ⟨rfl, rfl⟩
    go_wp2_with fail
    refine (l6In_b _ _ _ _ HB2.out _).mono ?_
    rintro e w' ⟨rfl, rfl⟩
    go_wp2
    go_ret2
    exact ⟨by rw [H.out, HBB.out]; rfl, Below.refl _ _⟩
theorem full1_any (r c bs bm b m : Nat) (w : World) (h1 : w.cell? ⟨bs, 0, none⟩ = some (.int .i64 b)) (h2 : w.cell? ⟨bm, 0, none⟩ = some (.int .i64 m)) (hr : r ≤ 5) (hc : c ≤ 5) (hm : m ≤ 5) (hb : b ≤ 1000000) :
    Calls Try.prog 80 #[.int .i64 r, .int .i64 c, .pointer (some ⟨bs, 0, none⟩), .pointer (some ⟨bm, 0, none⟩)] w fun e w' => e = .returned (.int .u8 (mirL m b r c).toNat) ∧ Dr w w' := by
  have hmul := mul_bd hr hm
  obtain ⟨hmul1, hmul2⟩ := hmul
  rcases Nat.mod_two_eq_zero_or_one (b / 2 ^ (r * m + c)) with h3 | h3
  · have HT : Hid (mirL m b r c = 114) := by unfold mirL bitL; rw [if_pos h3]; rfl
    have hand : bits BinOp.and IntKind.i64 ((b : Int) / 2 ^ (r * m + c)) 1 = 0 := by rw [bit_and b _ hb, h3]; rfl
    clear h3
    go_enter Try.func80, Try.ntmps80
    go_wp2
    go_ret
    exact ⟨by rw [HT.out]; rfl, Dr.refl _⟩
  · have HT : Hid (mirL m b r c = 102) := by unfold mirL bitL; rw [if_neg (by omega)]; rfl
    have hand : bits BinOp.and IntKind.i64 ((b : Int) / 2 ^ (r * m + c)) 1 = 1 := by rw [bit_and b _ hb, h3]; rfl
    clear h3
    go_enter Try.func80, Try.ntmps80
    go_wp2
    go_ret
    exact ⟨by rw [HT.out]; rfl, Dr.refl _⟩
/-- a box that holds a number -/
def Box1 (w : World) (b v : Nat) : Prop := w.heap[b]? = some (.cells #[.int .i64 (v : Nat)] 3 (0, 0))
theorem Box1.cell {w : World} {b v : Nat} (h : Box1 w b v) : w.cell? ⟨b, 0, none⟩ = some (.int .i64 (v : Nat)) := by rw [cell_of_row _ _ 0 _ _ (0, 0) h]; rfl
theorem Box1.fr {w : World} {b v : Nat} (h : Box1 w b v) : w.frozen? ⟨b, 0, none⟩ = false := row_frozen h 0
theorem Box1.lt {w : World} {b v : Nat} (h : Box1 w b v) : b < w.heap.size := (Array.getElem?_eq_some_iff.1 h).1
theorem Box1.below {w w' : World} {b v : Nat} (h : Box1 w b v) (hb : Below w.heap.size w w') : Box1 w' b v := (hb.block b h.lt).trans h
theorem Box1.set {w : World} {b v : Nat} (h : Box1 w b v) (x : Nat) : Box1 (w.setCell ⟨b, 0, none⟩ (.int .i64 (x : Nat))) b x := row_set h 0 (.int .i64 (x : Nat))
theorem box1_new (w : World) (v : Nat) : Box1 (w.alloc (.cells #[.int .i64 (v : Nat)] 3)) w.heap.size v := heap_alloc_new w _
set_option maxHeartbeats 800000 in
theorem most1_any (A : Option Addr) (cp : Nat) (g : List ByteArray) (bx v : Nat) (w : World) (hr : Rd w w.heap.size A (sv g)) (hg : gridB g = true) (hb : Box1 w bx v) (hv : v ≤ 1000) :
    Calls Try.prog 69 #[.slice A g.length cp, .pointer (some ⟨bx, 0, none⟩)] w fun e w' => e = .returned (.tuple #[]) ∧ Box1 w' bx (max v (fld g).leads.length) ∧ w.grownBy w' (some bx) := by
  have HPD := Lib.hid (roundMany_any A cp g (World.drew w) (show Rd (World.drew w) (World.drew w).heap.size A (sv g) from hr) hg)
  have hL := leads_100 hg
  have hc0 := hb.cell
  have hf0 := hb.fr
  have HB := Lib.hid (show Box1 (World.drew w) bx v from hb)
  have hbl := hb.lt
  clear hr hg hb
  generalize (fld g).leads.length = K at *
  go_enter Try.func69, Try.ntmps69
  go_wp2_with fail
  go_region_with (go_at_call 51; refine HPD.out.mono ?_; rintro e w1 ⟨rfl, hb⟩; have HB1 := Lib.hid (HB.out.below hb); have hf1 := HB1.out.fr; have hc1 := HB1.out.cell)
  all_goals go_wp2
  all_goals go_end0
  all_goals exact ⟨rfl, by rw [← show ((max v K : Nat) : Int) = max (v : Int) (K : Int) by omega]; exact HB1.out.set (max v K), (grown_drew (World.grownBy.refl w (some bx))).trans (grown_set (grown_of_below hb (some bx)) _ _)⟩
set_option maxHeartbeats 1600000 in
theorem fullGrids_any (n m bx : Nat) (w : World) (hn : 1 ≤ n) (hn5 : n ≤ 5) (hm : 1 ≤ m) (hm5 : m ≤ 5) (hnm : n * m ≤ 9) (hb : Box1 w bx 0) :
    Calls Try.prog 68 #[.int .i64 n, .int .i64 m, .func (.func 69) #[] #[.pointer (some ⟨bx, 0, none⟩)]] w fun e w' => e = .returned (.tuple #[]) ∧ Box1 w' bx (mostN n m) ∧ w.grownBy w' (some bx) := by
  have h9 : (n : Int) * (m : Int) ≤ 9 := by rw [← Int.natCast_mul]; omega
  have h90 : 0 ≤ (n : Int) * (m : Int) := by rw [← Int.natCast_mul]; omega
  have hE5 := pow_512 hnm
  have HNN := Lib.hid (show mostN n m = mostTo n m (2 ^ (n * m)) from rfl)
  have hpw : (2 : Int) ^ (n * m) = ((2 ^ (n * m) : Nat) : Int) := by rw [Int.natCast_pow]; rfl
  generalize hEE : 2 ^ (n * m) = E at *
  clear hEE
  have hen := call_enter Try.func69 (by kernel_rfl) rfl
  have HB0 := Lib.hid (show Box1 (w.alloc (.cells #[.int .i64 (m : Nat)] 3)) bx 0 from hb.below (below_alloc1 w _))
  have HM0 := Lib.hid (box1_new w m)
  have hbx : bx < w.heap.size := hb.lt
  have HG0 := Lib.hid (grown_of_below (below_alloc1 w (.cells #[.int .i64 (m : Nat)] 3)) (some bx))
  go_enter Try.func68, Try.ntmps68
  go_wp2
  rw [hpw]
  clear hpw
  go_loopw [11] (fun i wr => ∃ (b : Nat), b ≤ E ∧ i = .int .i64 b ∧ Hid (Box1 wr bx (mostTo n m b)) ∧ Hid (Box1 wr w.heap.size m) ∧ Hid (w.grownBy wr (some bx))) (fun i _ => E - (intOf i).toNat)
  case atStart => exact ⟨0, Nat.zero_le _, rfl, HB0.out, HM0.out, HG0.out⟩
  case round =>
    obtain ⟨b, hb, rfl, H1, H2, H3⟩ := hrel
    have hT25 := mostTo_25 (show n ≤ 5 by omega) (show 1 ≤ m by omega) (show m ≤ 5 by omega) b
    by_cases hlt : b < E
    · have hmc := H2.out.cell
      have hgr := mir_grid hn hn5 hm hm5 b
      have hld := mir_leads hn hm b
      have HS := Lib.hid (show mostTo n m (b + 1) = max (mostTo n m b) (fullF n m b).leads.length from rfl)
      have hwl := H2.out.lt
      obtain ⟨W2, hW2⟩ : ∃ W2 : World, W2 = wr.alloc (.cells #[.int .i64 (b : Nat)] 3) := ⟨_, rfl⟩
      have HS2 := Lib.hid (show Box1 W2 wr.heap.size b by rw [hW2]; exact box1_new wr b)
      have HM2 := Lib.hid (show Box1 W2 w.heap.size m by rw [hW2]; exact H2.out.below (below_alloc1 wr _))
      have HX2 := Lib.hid (show Box1 W2 bx (mostTo n m b) by rw [hW2]; exact H1.out.below (below_alloc1 wr _))
      have HG2 := Lib.hid (show w.grownBy W2 (some bx) by rw [hW2]; exact grown_below H3.out (below_alloc1 wr _))
      have hsz2 : W2.heap.size = wr.heap.size + 1 := by rw [hW2]; simp
      have HMK := Lib.hid (makeGrid_any 80 #[.pointer (some ⟨wr.heap.size, 0, none⟩), .pointer (some ⟨w.heap.size, 0, none⟩)] (Old W2 W2.heap.size) n m (mirL m b) W2 W2.heap.size (by omega) (by omega) (Nat.le_refl _)
        (clo_reads (call_enter Try.func80 (by kernel_rfl) rfl) (fun r c w' hr hc hO => full1_any r c wr.heap.size w.heap.size b m w' ((hO.cell _ (by simp only; omega)).trans HS2.out.cell) ((hO.cell _ (by simp only; omega)).trans HM2.out.cell) (by omega) (by omega) hm5 (by omega))) (fun _ _ => rfl))
      have hm2 : W2.cell? ⟨w.heap.size, 0, none⟩ = some (.int .i64 (m : Nat)) := HM2.out.cell
      go_wp2_with fail
      rw [← hW2]
      refine HMK.out.mono ?_
      rintro e w3 ⟨A3, c3, rfl, ho3, hI3, hS3⟩
      have hb3 : Below W2.heap.size W2 w3 := ⟨hS3.os, hS3.tape, hS3.output, hS3.size, hI3⟩
      have hm1 := most1_any A3 c3 (mkG n m (mirL m b)) bx (mostTo n m b) w3 (by have := Rd.of_own ho3; exact this) hgr (HX2.out.below hb3) (by omega)
      rw [mkG_length, hld, ← HS.out] at hm1
      have HM1 := Lib.hid hm1
      have HMM := Lib.hid (HM2.out.below hb3)
      have HG3 := Lib.hid (grown_below HG2.out hb3)
      clear hm1 ho3 hI3 hS3 hb3 hgr hld hW2 HMK HS2 HM2 HX2 HG2 H1 H2 H3
      go_wp2_with fail
      refine HM1.out.mono ?_
      rintro e w4 ⟨rfl, hx4, hg4⟩
      have HX4 := Lib.hid hx4
      have HM4 := Lib.hid (show Box1 w4 w.heap.size m from (hg4.block w.heap.size HMM.out.lt (by intro e; injection e with e; omega)).trans HMM.out)
      have HG4 := Lib.hid (grown_trans HG3.out hg4)
      clear hx4 hg4 HM1 HMM HG3
      go_wp2
      go_roundw
      case rel => exact ⟨b + 1, by omega, by go_num, HX4.out, HM4.out, HG4.out⟩
      case measure => simp [intOf]; omega
    · have HK := Lib.hid (show mostTo n m b = mostN n m by rw [HNN.out, show b = E by omega])
      go_wp2
      go_end0
      exact ⟨rfl, by rw [← HK.out]; exact H1.out, H3.out⟩
theorem roundMost_any (n m : Nat) (w : World) (hn : 1 ≤ n) (hn5 : n ≤ 5) (hm : 1 ≤ m) (hm5 : m ≤ 5) (hnm : n * m ≤ 9) :
    Calls Try.prog 43 #[.int .i64 n, .int .i64 m] w fun e w' => e = .returned (.int .i64 (mostN n m : Nat)) ∧ Below w.heap.size w w' := by
  have HF := Lib.hid (fullGrids_any n m w.heap.size (w.alloc (.cells #[.int .i64 0] 3)) hn hn5 hm hm5 hnm (box1_new w 0))
  have HB := Lib.hid (below_alloc1 w (.cells #[.int .i64 0] 3))
  go_enter Try.func43, Try.ntmps43
  go_wp2_with fail
  refine HF.out.mono ?_
  rintro e w1 ⟨rfl, hb, hg⟩
  have hc := hb.cell
  have HBB := Lib.hid (HB.out.grown hg (by simp) (fun k hk => by injection hk with hk; omega))
  clear hb hg
  go_wp2
  go_ret
  exact ⟨rfl, HBB.out⟩
theorem mostB_no1 {n m : Int} (h : sidesB n m = false) : mostB n m = false := by
  unfold mostB
  rw [show (inB n 1 5 && inB m 1 5) = false from h]; rfl
theorem iRoundMost_any (n m : Int) (w : World) (hn0 : -9223372036854775808 ≤ n) (hn9 : n ≤ 9223372036854775807) (hm0 : -9223372036854775808 ≤ m) (hm9 : m ≤ 9223372036854775807) :
    Calls Try.prog 16 #[.int .i64 n, .int .i64 m] w fun e w' => e = .returned (.tuple #[.int .i64 (mostA n m : Nat), .bool (mostB n m)]) ∧ Below w.heap.size w w' := by
  cases hs : sidesB n m
  · have hB := mostB_no1 hs
    have H := Lib.hid (mostA_no hB)
    have HBB := Lib.hid hB
    have HB := Lib.hid hs
    clear hs hB
    go_enter Try.func16, Try.ntmps16
    go_wp2_with fail
    refine (sidesOk_b _ _ _ HB.out _).mono ?_
    rintro e w' ⟨rfl, rfl⟩
    go_wp2
    go_ret2
    exact ⟨by rw [H.out, HBB.out]; rfl, Below.refl _ _⟩
  obtain ⟨hbn, hbm⟩ := Bool.and_eq_true_iff.1 (show (inB n 1 5 && inB m 1 5) = true from hs)
  have hn := inB_iff.1 hbn
  have hm := inB_iff.1 hbm
  obtain ⟨n, rfl⟩ := Int.eq_ofNat_of_zero_le (show 0 ≤ n by omega)
  obtain ⟨m, rfl⟩ := Int.eq_ofNat_of_zero_le (show 0 ≤ m by omega)
  have hmul := mul_bd (show n ≤ 5 by omega) (show m ≤ 5 by omega)
  obtain ⟨hmul1, hmul2⟩ := hmul
  have HB := Lib.hid hs
  by_cases h9 : (n : Int) * (m : Int) ≤ 9
  · have hB : mostB (n : Nat) (m : Nat) = true := by unfold mostB; rw [hbn, hbm, decide_eq_true h9]; rfl
    have H := Lib.hid (mostA_yes hB)
    have HBB := Lib.hid hB
    have HR := Lib.hid (roundMost_any n m w (by omega) (by omega) (by omega) (by omega) (by rw [← Int.natCast_mul] at h9; omega))
    have h9d : decide ((9 : Int) < (n : Int) * (m : Int)) = false := decide_eq_false (by omega)
    have h9n : ¬ ((9 : Int) < (n : Int) * (m : Int)) := by omega
    clear hbn hbm hB hs
    go_enter Try.func16, Try.ntmps16
    go_wp2_with fail
    refine (sidesOk_b _ _ _ HB.out _).mono ?_
    rintro e w' ⟨rfl, rfl⟩
    go_wp2_with fail
    refine HR.out.mono ?_
    rintro e w1 ⟨rfl, hb⟩
    go_wp2
    go_ret2
    exact ⟨by rw [H.out, HBB.out]; rfl, hb⟩
  · have hB : mostB (n : Nat) (m : Nat) = false := by unfold mostB; rw [decide_eq_false h9, Bool.and_false]
    have H := Lib.hid (mostA_no hB)
    have HBB := Lib.hid hB
    have h9d : (9 : Int) < (n : Int) * (m : Int) := by omega
    clear hbn hbm hB hs
    go_enter Try.func16, Try.ntmps16
    go_wp2_with fail
    refine (sidesOk_b _ _ _ HB.out _).mono ?_
    rintro e w' ⟨rfl, rfl⟩
    go_wp2
    go_ret2
    exact ⟨by rw [H.out, HBB.out]; rfl, Below.refl _ _⟩
end Go.Proofs.Ytmbjogjdcghacaa
