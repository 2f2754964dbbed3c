/-
  CONTRACTS: l1Power, l1Of, GridOf of the program and of the reference.
-/
import Derived.Test.YtjnelfgjglpchaaG
namespace Go.Proofs.Ytjnelfgjglpchaa
open Go.RowKit

def pw3 (k : Nat) : Nat := 3 ^ k
theorem pw3_zero : pw3 0 = 1 := rfl
theorem pw3_succ (k : Nat) : pw3 (k + 1) = pw3 k * 3 := Nat.pow_succ ..
theorem pw3_pos (k : Nat) : 1 ≤ pw3 k := Nat.pow_pos (by decide)
theorem pw3_mono {a b : Nat} (h : a ≤ b) : pw3 a ≤ pw3 b := Nat.pow_le_pow_right (by decide) h
theorem pw3_25 : pw3 25 = 847288609443 := by decide
theorem pw3_le {k : Nat} (h : k ≤ 25) : pw3 k ≤ 847288609443 := pw3_25 ▸ pw3_mono h
def qt (N k : Nat) : Nat := N / pw3 k
theorem qt_zero (N : Nat) : qt N 0 = N := by unfold qt; rw [pw3_zero, Nat.div_one]
theorem qt_succ (N k : Nat) : qt N (k + 1) = qt N k / 3 := by unfold qt; rw [pw3_succ, Nat.div_div_eq_div_mul]
theorem qt_le (N k : Nat) : qt N k ≤ N := Nat.div_le_self _ _
def dig3 (k : Nat) : UInt8 := if k % 3 = 0 then 46 else if k % 3 = 1 then 114 else 102
def gOf (n m N : Nat) : List ByteArray := mkG n m fun r c => dig3 (qt N (r * m + c))
def gridOfB (n m N : Int) : Bool := inB n 1 5 && inB m 1 5 && inB N 0 ((pw3 (n.toNat * m.toNat) : Int) - 1)
def gridOfR (n m N : Int) : List ByteArray := if gridOfB n m N then gOf n.toNat m.toNat N.toNat else []

theorem l1Power_any (k : Nat) (hk : k ≤ 25) (w : World) :
    Calls Try.prog 71 #[.int .i64 k] w fun e w' => e = .returned (.int .i64 (pw3 k : Nat)) ∧ w = w' := by
  go_enter Try.func71, Try.ntmps71
  go_wp2
  go_loop [3, 4] (fun t i => ∃ j : Nat, j ≤ k ∧ i = .int .i64 j ∧ t = .int .i64 (pw3 j : Nat)) (fun _ i => k - (intOf i).toNat)
  case atStart => exact ⟨0, Nat.zero_le _, rfl, rfl⟩
  case round =>
    obtain ⟨j, hj, rfl, rfl⟩ := hrel
    have hp := pw3_le (k := j) (by omega)
    have hp0 := pw3_pos j
    by_cases hlt : j < k
    · have HS := Lib.hid (pw3_succ j)
      go_wp2
      go_round
      case rel => exact ⟨j + 1, by omega, by go_num, by rw [HS.out]; go_num⟩
      case measure => simp [intOf]; omega
    · obtain rfl : j = k := by omega
      go_wp2
      go_ret
      exact ⟨rfl, rfl⟩

/-- the box of the number; all else below B as it was -/
def NumBox (w0 : World) (B b N : Nat) (k : Nat) (w : World) : Prop :=
  w.heap[b]? = some (.cells #[.int .i64 (qt N k : Nat)] 3 (0, 0)) ∧ ∀ j, j < B → j ≠ b → w.heap[j]? = w0.heap[j]?
theorem gridOf1_any (r c b q : Nat) (w : World) (hq : q ≤ 9223372036854775807) (hb : w.heap[b]? = some (.cells #[.int .i64 q] 3 (0, 0))) :
    Calls Try.prog 70 #[.int .i64 r, .int .i64 c, .pointer (some ⟨b, 0, none⟩)] w fun e w' => e = .returned (.int .u8 (dig3 q).toNat) ∧ w' = w.setCell ⟨b, 0, none⟩ (.int .i64 ((q : Int) / 3)) := by
  have hc := row_cell hb 0 (by simp)
  have hf := row_frozen hb 0
  rw [show (#[Value.int .i64 (q : Int)] : Array Value)[0] = .int .i64 (q : Int) from rfl] at hc
  have hbl := World.block_lt_of_cell? w _ hc
  have h3 : q % 3 = 0 ∨ q % 3 = 1 ∨ q % 3 = 2 := by omega
  clear hb
  rcases h3 with h3 | h3 | h3
  ·
    have HD := Lib.hid (show dig3 q = dig3 0 by unfold dig3; rw [h3])
    have hm : (q : Int) % 3 = 0 := by omega
    clear h3
    go_enter Try.func70, Try.ntmps70
    go_wp2
    go_ret
    exact ⟨by rw [HD.out]; rfl, rfl⟩
  ·
    have HD := Lib.hid (show dig3 q = dig3 1 by unfold dig3; rw [h3])
    have hm : (q : Int) % 3 = 1 := by omega
    clear h3
    go_enter Try.func70, Try.ntmps70
    go_wp2
    go_ret
    exact ⟨by rw [HD.out]; rfl, rfl⟩
  ·
    have HD := Lib.hid (show dig3 q = dig3 2 by unfold dig3; rw [h3])
    have hm : (q : Int) % 3 = 2 := by omega
    clear h3
    go_enter Try.func70, Try.ntmps70
    go_wp2
    go_ret
    exact ⟨by rw [HD.out]; rfl, rfl⟩

theorem clo_num (w0 : World) (B b N n m : Nat) (hb : b < B) (hN : N ≤ 9223372036854775807) (hn : n ≤ 100) (hm : m ≤ 100) :
    Clo Try.prog 70 #[.pointer (some ⟨b, 0, none⟩)] B (NumBox w0 B b N) n m (fun r c => dig3 (qt N (r * m + c))) where
  call := fun r c w hr hc hI => (gridOf1_any r c b (qt N (r * m + c)) w (Nat.le_trans (qt_le _ _) hN) hI.1).mono fun e w' ⟨he, hw⟩ => by
    subst hw
    refine ⟨he, ⟨?_, fun j hj hne => (Below.heap_setCell _ _ _ _ hne).trans (hI.2 j hj hne)⟩, rfl, rfl, rfl, by simp [World.setCell], fun k hk => Below.heap_setCell _ _ _ _ (by show k ≠ b; omega)⟩
    have := row_set hI.1 0 (.int .i64 (((qt N (r * m + c) : Nat) : Int) / 3))
    rw [this]
    congr 2
    have e3 : ((qt N (r * m + c) : Nat) : Int) / 3 = ((qt N (r * m + c + 1) : Nat) : Int) := by
      rw [qt_succ]; omega
    rw [e3]; rfl
  enter := call_enter Try.func70 (by kernel_rfl) rfl
  stay := fun k w w' hI h => ⟨(h b hb).trans hI.1, fun j hj hne => (h j hj).trans (hI.2 j hj hne)⟩

set_option maxHeartbeats 800000 in
theorem iGridOf_any (n m N : Int) (w : World) (hN0 : -9223372036854775808 ≤ N) (hN : N ≤ 9223372036854775807) :
    Calls Try.prog 32 #[.int .i64 n, .int .i64 m, .int .i64 N] w (FreshSB (gridOfR n m N) (gridOfB n m N) w) := by
  cases hb : inB n 1 5 && inB m 1 5
  · have HB2 := Lib.hid (show gridOfB n m N = false by unfold gridOfB; rw [hb]; rfl)
    have H := Lib.hid (show gridOfR n m N = [] by unfold gridOfR; rw [HB2.out]; rfl)
    have HB := Lib.hid (show sidesB n m = false from hb)
    clear hb
    go_enter Try.func32, Try.ntmps32
    go_wp2_with (go_at_call 69; refine (sidesOk_b _ _ _ HB.out _).mono ?_; rintro e w' ⟨rfl, rfl⟩)
    go_ret2
    rw [H.out, HB2.out]
    exact fresh_nil (below_alloc1 w _) (by simp)
  · have hn : 1 ≤ n ∧ n ≤ 5 := inB_iff.1 (Bool.and_eq_true_iff.1 hb).1
    have hm : 1 ≤ m ∧ m ≤ 5 := inB_iff.1 (Bool.and_eq_true_iff.1 hb).2
    have HB := Lib.hid (show sidesB n m = true from hb)
    by_cases hneg : N < 0
    · have HB2 := Lib.hid (show gridOfB n m N = false by unfold gridOfB; rw [inB_no (n := N) (by omega), Bool.and_false])
      have H := Lib.hid (show gridOfR n m N = [] by unfold gridOfR; rw [HB2.out]; rfl)
      have hneg2 : decide (N < 0) = true := decide_eq_true hneg
      clear hb
      go_enter Try.func32, Try.ntmps32
      go_wp2_with (go_at_call 69; refine (sidesOk_b _ _ _ HB.out _).mono ?_; rintro e w' ⟨rfl, rfl⟩)
      go_ret2
      rw [H.out, HB2.out]
      exact fresh_nil (below_alloc1 w _) (by simp)
    · obtain ⟨n, rfl⟩ := Int.eq_ofNat_of_zero_le (show 0 ≤ n by omega)
      obtain ⟨m, rfl⟩ := Int.eq_ofNat_of_zero_le (show 0 ≤ m by omega)
      obtain ⟨N, rfl⟩ := Int.eq_ofNat_of_zero_le (show 0 ≤ N by omega)
      have hneg2 : decide ((N : Int) < 0) = false := decide_eq_false hneg
      have HE := Lib.hid (show gridOfB n m N = decide (N < pw3 (n * m)) by
        unfold gridOfB
        rw [hb, Bool.true_and]
        have := pw3_pos (n * m)
        unfold inB
        rw [Int.toNat_natCast, Int.toNat_natCast]
        exact decide_eq_decide.2 (by omega))
      clear hb hneg
      have hq : qt N (n * m) ≤ N := qt_le _ _
      by_cases hlt : N < pw3 (n * m)
      · have HQ := Lib.hid (show qt N (n * m) = 0 from Nat.div_eq_of_lt hlt)
        have HB2 := Lib.hid (show gridOfB n m N = true by rw [HE.out]; exact decide_eq_true hlt)
        have H := Lib.hid (show gridOfR n m N = gOf n m N by unfold gridOfR; rw [HB2.out]; rfl)
        clear hlt HE
        go_enter Try.func32, Try.ntmps32
        go_wp2_with fail
        refine (sidesOk_b _ _ _ HB.out _).mono ?_
        rintro e w' ⟨rfl, rfl⟩
        go_wp2_with fail
        refine (makeGrid_any 70 #[.pointer (some ⟨w.heap.size, 0, none⟩)] (NumBox w (w.heap.size + 1) w.heap.size N) n m _ _ (w.heap.size + 1) (by omega) (by omega) (by simp)
          (clo_num w (w.heap.size + 1) w.heap.size N n m (by omega) (by omega) (by omega) (by omega)) ⟨by rw [qt_zero]; exact heap_alloc_new w _, fun j hj hne => Below.heap_alloc w _ j (by omega)⟩).mono ?_
        rintro e w1 ⟨A, c, rfl, ho, hI, hS⟩
        have hbox := row_cell hI.1 0 (by simp)
        rw [show ∀ q : Int, (#[Value.int .i64 q] : Array Value)[0] = .int .i64 q from fun _ => rfl] at hbox
        have hB : Below w.heap.size w w1 := ⟨hS.os, hS.tape, hS.output, by have := hS.size; simp at this; omega, fun k hk => hI.2 k (by omega) (by omega)⟩
        clear hI hS
        rw [HQ.out] at hbox
        go_wp2
        go_ret2
        rw [H.out, HB2.out]
        have hl : (gOf n m N).length = n := mkG_length _ _ _
        exact ⟨A, c, by rw [hl]; rfl, by rw [hl]; exact own_mono ho (by omega), hB⟩
      · have HQ := Lib.hid (show 0 < qt N (n * m) from Nat.div_pos (by omega) (pw3_pos _))
        have HB2 := Lib.hid (show gridOfB n m N = false by rw [HE.out]; exact decide_eq_false hlt)
        have H := Lib.hid (show gridOfR n m N = [] by unfold gridOfR; rw [HB2.out]; rfl)
        clear hlt HE
        go_enter Try.func32, Try.ntmps32
        go_wp2_with fail
        refine (sidesOk_b _ _ _ HB.out _).mono ?_
        rintro e w' ⟨rfl, rfl⟩
        go_wp2_with fail
        refine (makeGrid_any 70 #[.pointer (some ⟨w.heap.size, 0, none⟩)] (NumBox w (w.heap.size + 1) w.heap.size N) n m _ _ (w.heap.size + 1) (by omega) (by omega) (by simp)
          (clo_num w (w.heap.size + 1) w.heap.size N n m (by omega) (by omega) (by omega) (by omega)) ⟨by rw [qt_zero]; exact heap_alloc_new w _, fun j hj hne => Below.heap_alloc w _ j (by omega)⟩).mono ?_
        rintro e w1 ⟨A, c, rfl, ho, hI, hS⟩
        have hbox := row_cell hI.1 0 (by simp)
        rw [show ∀ q : Int, (#[Value.int .i64 q] : Array Value)[0] = .int .i64 q from fun _ => rfl] at hbox
        have hB : Below w.heap.size w w1 := ⟨hS.os, hS.tape, hS.output, by have := hS.size; simp at this; omega, fun k hk => hI.2 k (by omega) (by omega)⟩
        clear hI hS
        have hpos : 0 < qt N (n * m) := HQ.out
        go_wp2
        go_ret2
        rw [H.out, HB2.out]
        exact fresh_nil hB rfl

set_option maxHeartbeats 1000000 in
theorem l1Of_any (n m N : Nat) (hn : n ≤ 5) (hm : m ≤ 5) (hN : N ≤ 9223372036854775807) (w : World) :
    Calls Try.prog 72 #[.int .i64 n, .int .i64 m, .int .i64 N] w (FreshS (gOf n m N) w) := by
  obtain ⟨i0, hi, hz0, hz1, hz2⟩ := info_parts infoStr
  obtain ⟨j0, hj, hy0, hy1, hy2⟩ := info_parts infoU8
  go_enter Try.func72, Try.ntmps72
  go_wp2
  go_loopw [2, 7, 8] (fun t v i wr => ∃ (r : Nat), r ≤ n ∧ i = .int .i64 r ∧ t = .int .i64 (qt N (r * m) : Nat) ∧ Hid (wr.ownsRow w.heap.size 9 1 v r (sv (mkG r m fun r c => dig3 (qt N (r * m + c))))) ∧ Hid (Below w.heap.size w wr)) (fun _ _ i _ => n - (intOf i).toNat)
  case atStart => exact ⟨0, Nat.zero_le _, rfl, by rw [Nat.zero_mul, qt_zero], own_empty w _, below_alloc1 w _⟩
  case round =>
    obtain ⟨r, hr, rfl, rfl, HO, HS⟩ := hrel
    by_cases hlt : r < n
    · obtain ⟨wo, rfl⟩ : ∃ wo : World, wo = wr := ⟨_, rfl⟩
      have hBo : w.heap.size ≤ wo.heap.size := HS.out.size
      go_wp2
      go_loopw [2, 9, 10] (fun t v i wi => ∃ (c : Nat), c ≤ m ∧ i = .int .i64 c ∧ t = .int .i64 (qt N (r * m + c) : Nat) ∧ Hid (wi.ownsRow wo.heap.size 5 1 v c (bv (rowOf c (fun c => dig3 (qt N (r * m + c)))))) ∧ Hid (wi.ownsRow w.heap.size 9 1 u7 r (sv (mkG r m fun r c => dig3 (qt N (r * m + c))))) ∧ Hid (Below w.heap.size w wi) ∧ wo.heap.size ≤ wi.heap.size) (fun _ _ i _ => m - (intOf i).toNat)
      case atStart => exact ⟨0, Nat.zero_le _, rfl, rfl, own_empty wo _, HO.out.alloc _, HS.out.alloc HS.out.size _, by simp⟩
      case round =>
        obtain ⟨c, hc, rfl, rfl, HR, HO2, HS2, hBi⟩ := hrel
        have hq : qt N (r * m + c) ≤ N := qt_le _ _
        have HQ := Lib.hid (show qt N (r * m + (c + 1)) = qt N (r * m + c) / 3 from qt_succ _ _)
        by_cases hcl : c < m
        · have HX : Hid (∀ x, dig3 (qt N (r * m + c)) = x → bv (rowOf (c + 1) (fun c => dig3 (qt N (r * m + c)))) = bv (rowOf c (fun c => dig3 (qt N (r * m + c)))) ++ [.int .u8 x.toNat]) := by
            rintro x rfl
            rw [rowOf_succ, bv_snoc]
          have h3 : (qt N (r * m + c)) % 3 = 0 ∨ (qt N (r * m + c)) % 3 = 1 ∨ (qt N (r * m + c)) % 3 = 2 := by omega
          have HD0 : Hid (qt N (r * m + c) % 3 = 0 → dig3 (qt N (r * m + c)) = 46) := fun h => by unfold dig3; rw [h]; rfl
          have HD1 : Hid (qt N (r * m + c) % 3 = 1 → dig3 (qt N (r * m + c)) = 114) := fun h => by unfold dig3; rw [h]; rfl
          have HD2 : Hid (qt N (r * m + c) % 3 = 2 → dig3 (qt N (r * m + c)) = 102) := fun h => by unfold dig3; rw [h]; rfl
          rcases h3 with h3 | h3 | h3
          ·
            have HXX := Lib.hid (HX.out 46 (HD0.out h3))
            have hm2 : (qt N (r * m + c) : Int) % 3 = 0 := by omega
            clear h3 HX HD0 HD1 HD2
            go_wp2_with (at_builtin; refine wpList_append_own _ rfl _ _ 29 rfl (wo.heap.size) 5 j0 (.int .u8 0) 1 1 Try.underlying29 hj hy0 hy1 hy2 rfl (by decide) _ _ _ rfl ((HR.out).alloc _) ⟨(wr).heap.size, 0, none⟩ 1 1 [.int .u8 (46)] rfl rfl ?c1 ?c2 ?c3 ?c4 ?c5 ?_)
            try case c1 => exact cell_one_new _ _ _
            try case c2 => simp [Value.oneCell']
            case c3 => simp only [maxLen]; omega
            case c4 => omega
            case c5 => first | omega | (simp; omega)
            intro v' w2 hown2 hgrow2 _
            have HO3 := Lib.hid (own_kept_ne (HO2.out.alloc (.cells #[.int .u8 46] 5)) (HR.out.alloc (.cells #[.int .u8 46] 5)) (by decide) hgrow2)
            have HS3 := Lib.hid (below_grown (HS2.out.alloc HS2.out.size (.cells #[.int .u8 46] 5)) hgrow2 (fun g hg => Nat.le_trans hBo (own_ge HR.out g hg)))
            have hB3 : wo.heap.size ≤ w2.heap.size := Nat.le_trans hBi (by have := hgrow2.size; simp at this; omega)
            have HR3 := Lib.hid hown2
            clear hown2 hgrow2 HO2 HR HS2
            go_wp2
            go_roundw
            case rel => exact ⟨c + 1, by omega, by go_num, by rw [HQ.out]; go_num, (by rw [HXX.out]; exact HR3.out), HO3.out, HS3.out, hB3⟩
            case measure => simp [intOf]; omega
          ·
            have HXX := Lib.hid (HX.out 114 (HD1.out h3))
            have hm2 : (qt N (r * m + c) : Int) % 3 = 1 := by omega
            clear h3 HX HD0 HD1 HD2
            go_wp2_with (at_builtin; refine wpList_append_own _ rfl _ _ 29 rfl (wo.heap.size) 5 j0 (.int .u8 0) 1 1 Try.underlying29 hj hy0 hy1 hy2 rfl (by decide) _ _ _ rfl ((HR.out).alloc _) ⟨(wr).heap.size, 0, none⟩ 1 1 [.int .u8 (114)] rfl rfl ?c1 ?c2 ?c3 ?c4 ?c5 ?_)
            try case c1 => exact cell_one_new _ _ _
            try case c2 => simp [Value.oneCell']
            case c3 => simp only [maxLen]; omega
            case c4 => omega
            case c5 => first | omega | (simp; omega)
            intro v' w2 hown2 hgrow2 _
            have HO3 := Lib.hid (own_kept_ne (HO2.out.alloc (.cells #[.int .u8 114] 5)) (HR.out.alloc (.cells #[.int .u8 114] 5)) (by decide) hgrow2)
            have HS3 := Lib.hid (below_grown (HS2.out.alloc HS2.out.size (.cells #[.int .u8 114] 5)) hgrow2 (fun g hg => Nat.le_trans hBo (own_ge HR.out g hg)))
            have hB3 : wo.heap.size ≤ w2.heap.size := Nat.le_trans hBi (by have := hgrow2.size; simp at this; omega)
            have HR3 := Lib.hid hown2
            clear hown2 hgrow2 HO2 HR HS2
            go_wp2
            go_roundw
            case rel => exact ⟨c + 1, by omega, by go_num, by rw [HQ.out]; go_num, (by rw [HXX.out]; exact HR3.out), HO3.out, HS3.out, hB3⟩
            case measure => simp [intOf]; omega
          ·
            have HXX := Lib.hid (HX.out 102 (HD2.out h3))
            have hm2 : (qt N (r * m + c) : Int) % 3 = 2 := by omega
            clear h3 HX HD0 HD1 HD2
            go_wp2_with (at_builtin; refine wpList_append_own _ rfl _ _ 29 rfl (wo.heap.size) 5 j0 (.int .u8 0) 1 1 Try.underlying29 hj hy0 hy1 hy2 rfl (by decide) _ _ _ rfl ((HR.out).alloc _) ⟨(wr).heap.size, 0, none⟩ 1 1 [.int .u8 (102)] rfl rfl ?c1 ?c2 ?c3 ?c4 ?c5 ?_)
            try case c1 => exact cell_one_new _ _ _
            try case c2 => simp [Value.oneCell']
            case c3 => simp only [maxLen]; omega
            case c4 => omega
            case c5 => first | omega | (simp; omega)
            intro v' w2 hown2 hgrow2 _
            have HO3 := Lib.hid (own_kept_ne (HO2.out.alloc (.cells #[.int .u8 102] 5)) (HR.out.alloc (.cells #[.int .u8 102] 5)) (by decide) hgrow2)
            have HS3 := Lib.hid (below_grown (HS2.out.alloc HS2.out.size (.cells #[.int .u8 102] 5)) hgrow2 (fun g hg => Nat.le_trans hBo (own_ge HR.out g hg)))
            have hB3 : wo.heap.size ≤ w2.heap.size := Nat.le_trans hBi (by have := hgrow2.size; simp at this; omega)
            have HR3 := Lib.hid hown2
            clear hown2 hgrow2 HO2 HR HS2
            go_wp2
            go_roundw
            case rel => exact ⟨c + 1, by omega, by go_num, by rw [HQ.out]; go_num, (by rw [HXX.out]; exact HR3.out), HO3.out, HS3.out, hB3⟩
            case measure => simp [intOf]; omega
        · have hcm : c = m := by omega
          subst hcm
          have HR1 := Lib.hid (show qt N (r * c + c) = qt N ((r + 1) * c) by rw [Nat.succ_mul])
          obtain ⟨A, c', rfl, hc1, hc2⟩ := own_form HR.out
          have HM := Lib.hid (mkG_succ r c (fun r' c' => dig3 (qt N (r' * c + c'))))
          generalize hrow : rowOf c (fun c' => dig3 (qt N (r * c + c'))) = row at *
          have hlen : row.length = c := by rw [← hrow, rowOf_length]
          have hcv := run_bytes_text (P := Try.prog) wr 29 9 5 Try.underlying29 Try.underlying5 Try.underlying9 A c' _ _ (Rd.of_own HR.out)
          rw [hlen] at hcv
          clear hlen hrow
          go_wp2_with (at_builtin; refine wpList_append_own _ rfl _ _ 22 rfl (w.heap.size) 9 i0 (.string ⟨#[]⟩) 1 16 Try.underlying22 hi hz0 hz1 hz2 rfl (by decide) _ _ _ rfl ((HO2.out).alloc _) ⟨(wr).heap.size, 0, none⟩ 1 1 [.string (bs row)] rfl rfl ?c1 ?c2 ?c3 ?c4 ?c5 ?_)
          try case c1 => exact cell_one_new _ _ _
          try case c2 => simp [Value.oneCell']
          case c3 => simp only [maxLen]; omega
          case c4 => omega
          case c5 => first | omega | (simp; omega)
          intro v' w2 hown2 hgrow2 _
          have HS3 := Lib.hid (below_grown (HS2.out.alloc HS2.out.size (.cells #[.string (bs row)] 9)) hgrow2 (fun g hg => own_ge HO2.out g hg))
          have HO3 := Lib.hid hown2
          clear hown2 hgrow2 HO2 HR HS2 hcv HO HS
          go_wp2
          go_roundw
          case rel => exact ⟨r + 1, by omega, by go_num, by rw [← HR1.out], (by rw [HM.out, sv_snoc]; exact HO3.out), HS3.out⟩
          case measure => simp [intOf]; omega
    · obtain rfl : r = n := by omega
      obtain ⟨A, c, rfl, hc1, hc2⟩ := own_form HO.out
      go_wp2
      go_ret
      have hl : (gOf r m N).length = r := mkG_length _ _ _
      exact ⟨A, c, by rw [hl]; rfl, by rw [hl]; exact HO.out, HS.out⟩

set_option maxHeartbeats 400000 in
theorem sGridOf_any (n m N : Int) (w : World) (hN0 : -9223372036854775808 ≤ N) (hN : N ≤ 9223372036854775807) :
    Calls Try.prog 33 #[.int .i64 n, .int .i64 m, .int .i64 N] w (FreshSB (gridOfR n m N) (gridOfB n m N) w) := by
  cases hbn : inB n 1 5
  · have HB2 := Lib.hid (show gridOfB n m N = false by unfold gridOfB; rw [hbn]; rfl)
    have H := Lib.hid (show gridOfR n m N = [] by unfold gridOfR; rw [HB2.out]; rfl)
    have HB := Lib.hid hbn
    clear hbn
    go_enter Try.func33, Try.ntmps33
    go_wp2_with fail
    refine (l6In_b _ _ _ _ HB.out _).mono ?_
    rintro e w' ⟨rfl, rfl⟩
    go_wp2_with fail
    refine (l1None_any _).mono ?_
    rintro e w1 ⟨A, c, rfl, ho, hb⟩
    go_wp2
    go_ret2
    rw [H.out, HB2.out]
    exact ⟨A, c, rfl, ho, hb⟩
  · cases hbm : inB m 1 5
    · have HB2 := Lib.hid (show gridOfB n m N = false by unfold gridOfB; rw [hbn, hbm]; rfl)
      have H := Lib.hid (show gridOfR n m N = [] by unfold gridOfR; rw [HB2.out]; rfl)
      have HBn := Lib.hid hbn
      have HBm := Lib.hid hbm
      clear hbn hbm
      go_enter Try.func33, Try.ntmps33
      go_wp2_with fail
      refine (l6In_b _ _ _ _ HBn.out _).mono ?_
      rintro e w' ⟨rfl, rfl⟩
      go_wp2_with fail
      refine (l6In_b _ _ _ _ HBm.out _).mono ?_
      rintro e w' ⟨rfl, rfl⟩
      go_wp2_with fail
      refine (l1None_any _).mono ?_
      rintro e w1 ⟨A, c, rfl, ho, hb⟩
      go_wp2
      go_ret2
      rw [H.out, HB2.out]
      exact ⟨A, c, rfl, ho, hb⟩
    · have hn := inB_iff.1 hbn
      have hm := inB_iff.1 hbm
      obtain ⟨n, rfl⟩ := Int.eq_ofNat_of_zero_le (show 0 ≤ n by omega)
      obtain ⟨m, rfl⟩ := Int.eq_ofNat_of_zero_le (show 0 ≤ m by omega)
      have hnm := mul_bd (n := n) (m := m) (a := 5) (b := 5) (by omega) (by omega)
      have hk : n * m ≤ 25 := by have := hnm.1; rw [← Int.natCast_mul] at this; omega
      obtain ⟨hnm1, hnm2⟩ := hnm
      have hp := pw3_le hk
      have hp0 := pw3_pos (n * m)
      have HK := Lib.hid (Int.natCast_mul n m)
      have HBn := Lib.hid hbn
      have HBm := Lib.hid hbm
      clear hbn hbm
      cases hbN : inB N 0 ((pw3 (n * m) : Int) - 1)
      · have HB2 := Lib.hid (show gridOfB n m N = false by unfold gridOfB; rw [HBn.out, HBm.out, Int.toNat_natCast, Int.toNat_natCast, hbN]; rfl)
        have H := Lib.hid (show gridOfR n m N = [] by unfold gridOfR; rw [HB2.out]; rfl)
        have HBN := Lib.hid hbN
        clear hbN
        go_enter Try.func33, Try.ntmps33
        go_wp2_with fail
        refine (l6In_b _ _ _ _ HBn.out _).mono ?_
        rintro e w' ⟨rfl, rfl⟩
        go_wp2_with fail
        refine (l6In_b _ _ _ _ HBm.out _).mono ?_
        rintro e w' ⟨rfl, rfl⟩
        go_wp2_with fail
        rw [← HK.out]
        refine (l1Power_any (n * m) hk _).mono ?_
        rintro e w' ⟨rfl, rfl⟩
        go_wp2_with fail
        refine (l6In_b _ _ _ _ HBN.out _).mono ?_
        rintro e w' ⟨rfl, rfl⟩
        go_wp2_with fail
        refine (l1None_any _).mono ?_
        rintro e w1 ⟨A, c, rfl, ho, hb⟩
        go_wp2
        go_ret2
        rw [H.out, HB2.out]
        exact ⟨A, c, rfl, ho, hb⟩
      · have HB2 := Lib.hid (show gridOfB n m N = true by unfold gridOfB; rw [HBn.out, HBm.out, Int.toNat_natCast, Int.toNat_natCast, hbN]; rfl)
        have hNN := inB_iff.1 hbN
        obtain ⟨N, rfl⟩ := Int.eq_ofNat_of_zero_le hNN.1
        have H := Lib.hid (show gridOfR n m N = gOf n m N by unfold gridOfR; rw [HB2.out]; rfl)
        have HBN := Lib.hid hbN
        clear hbN hNN
        go_enter Try.func33, Try.ntmps33
        go_wp2_with fail
        refine (l6In_b _ _ _ _ HBn.out _).mono ?_
        rintro e w' ⟨rfl, rfl⟩
        go_wp2_with fail
        refine (l6In_b _ _ _ _ HBm.out _).mono ?_
        rintro e w' ⟨rfl, rfl⟩
        go_wp2_with fail
        rw [← HK.out]
        refine (l1Power_any (n * m) hk _).mono ?_
        rintro e w' ⟨rfl, rfl⟩
        go_wp2_with fail
        refine (l6In_b _ _ _ _ HBN.out _).mono ?_
        rintro e w' ⟨rfl, rfl⟩
        go_wp2_with fail
        refine (l1Of_any n m N (by omega) (by omega) (by omega) _).mono ?_
        rintro e w1 ⟨A, c, rfl, ho, hb⟩
        go_wp2
        go_ret2
        rw [H.out, HB2.out]
        exact ⟨A, c, rfl, ho, hb⟩
end Go.Proofs.Ytjnelfgjglpchaa
