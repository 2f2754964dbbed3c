/-
  CONTRACTS OF THE DRAWS: a drawn grid.
-/
import Derived.Test.YthjllnabjnjpmaaT
import Derived.Test.YthjllnabjnjpmaaQ
import Derived.Deep.DeepCutAuto
namespace Go.Proofs.Ythjllnabjnjpmaa
set_option maxRecDepth 100000
open Go.RowKit

theorem grown_own {w a b : World} {row row2 : Option Nat} (h : w.grownBy a row) (k : a.grownBy b row2) (hr : ∀ g, row2 = some g → w.heap.size ≤ g) : w.grownBy b row :=
  ⟨k.os.trans h.os, k.tape.trans h.tape, k.output.trans h.output, Nat.le_trans h.size k.size, fun j hj hne => (k.block j (Nat.lt_of_lt_of_le hj h.size) (fun e => by have := hr j e.symm; omega)).trans (h.block j hj hne)⟩
theorem grown_alloc {w a : World} {row : Option Nat} (h : w.grownBy a row) (o : Obj) : w.grownBy (a.alloc o) row := grown_trans h (World.grownBy_alloc a o row)
theorem Rdr.alloc {w : World} {rb n c p : Nat} {A : Option Addr} (h : Rdr w rb A n c p) (o : Obj) : Rdr (w.alloc o) rb A n c p := (Below.heap_alloc w o rb h.lt).trans h
theorem own_pick {w w' : World} {rb c0 n0 p : Nat} {A : Option Addr} {base e size n : Nat} {v : Value} {xs : List Value} (h : w.ownsRow base e size v n xs) (hr : Rdr w rb A n0 c0 p) (hg : w.grownBy w' (some rb)) (hne : e ≠ 82) : w'.ownsRow base e size v n xs :=
  h.kept hg (.inr (own_ne_rdr h hr hne))

theorem one_int (k : IntKind) (n : Int) : ∀ u ∈ [Value.int k n], u.oneCell' = true := by simp [Value.oneCell']
theorem one_str (s : ByteArray) : ∀ u ∈ [Value.string s], u.oneCell' = true := by simp [Value.oneCell']
theorem size_alloc_le {w : World} {B : Nat} (h : B ≤ w.heap.size) (o : Obj) : B ≤ (w.alloc o).heap.size := by simp; omega
theorem bv_grow {w : World} {base e n k : Nat} {v : Value} {R : List UInt8} {b : UInt8} (h : w.ownsRow base e 1 v n (bv R ++ [.int .u8 b.toNat])) : R.length = k → ∃ R' : List UInt8, R'.length = k + 1 ∧ w.ownsRow base e 1 v n (bv R') :=
  fun hk => ⟨R ++ [b], by rw [List.length_append, hk]; rfl, by rw [bv_snoc]; exact h⟩
/-- a list of texts has come back, of a reader's draws -/
def DrawS (lo hi : Nat) (l : List UInt8) (A : Option Addr) (c rb p K : Nat) (mx : Nat) (w : World) (e : Ending) (w' : World) : Prop :=
  ∃ (g : List ByteArray) (A' : Option Addr) (c' p' : Nat), e = .returned (.slice A' g.length c') ∧ w'.ownsRow w.heap.size 9 1 (.slice A' g.length c') g.length (sv g) ∧ lo ≤ g.length ∧ g.length ≤ hi ∧ (∀ s ∈ g, 1 ≤ s.size ∧ s.size ≤ mx) ∧
    Rdr w' rb A l.length c p' ∧ p' ≤ p + K ∧ w.grownBy w' (some rb)

set_option maxHeartbeats 3200000 in
theorem l91Of_any (l : List UInt8) (A : Option Addr) (c rb p B n m : Nat) (w : World) (hr : Rdr w rb A l.length c p) (hl : Rd w B A (bv l)) (hB : B ≤ rb) (hp : p ≤ 10000) (hll : l.length ≤ 2000) (hn : 1 ≤ n ∧ n ≤ 6) (hm : 1 ≤ m ∧ m ≤ 6) :
    Calls Try.prog 57 #[.pointer (some ⟨rb, 0, none⟩), .int .i64 n, .int .i64 m] w (DrawS n n l A c rb p 100 m w) := by
  obtain ⟨i0, hi, hz0, hz1, hz2⟩ := info_parts infoStr
  obtain ⟨j0, hj, hy0, hy1, hy2⟩ := info_parts infoU8
  obtain ⟨hn1, hn2⟩ := hn
  obtain ⟨hm1, hm2⟩ := hm
  have hrb := hr.lt
  go_enter Try.func57, Try.ntmps57
  go_wp2_with fail
  refine (pick_any l A c rb p B 4 _ (hr.alloc _) (hl.below ((below_alloc1 w _).mono (by omega))) hB (by omega) hll (by omega) (by omega)).mono ?_
  rintro e w1 ⟨kd, rfl, hkd, hr1, hg1⟩
  have ho1 := own_pick (own_empty w 9) (hr.alloc _) hg1 (by decide)
  have hl1 := (hl.below ((below_alloc1 w (.cells #[] 9)).mono (by omega))).grown hg1 (by simp; omega) (fun g hg => by injection hg with hg; omega)
  have hgw1 := grown_trans (grown_alloc (World.grownBy.refl w (some rb)) (.cells #[] 9)) hg1
  have HO1 := Lib.hid ho1
  have HR1 := Lib.hid hr1
  have HG1 := Lib.hid hgw1
  have HL1 := Lib.hid hl1
  clear ho1 hr1 hgw1 hl1 hg1 hr hl
  go_wp2
  go_loopw [7, 9] (fun v i wr => ∃ (r p' : Nat) (G : List ByteArray), r ≤ n ∧ i = .int .i64 r ∧ p' ≤ p + 1 + 12 * r ∧ Hid (G.length = r) ∧ Hid (∀ s ∈ G, s.size = m) ∧ Hid (wr.ownsRow w.heap.size 9 1 v r (sv G)) ∧ Hid (Rdr wr rb A l.length c p') ∧ Hid (w.grownBy wr (some rb)) ∧ Hid (Rd wr B A (bv l))) (fun _ i _ => n - (intOf i).toNat)
  case atStart => exact ⟨0, p + 1, [], Nat.zero_le _, rfl, by omega, rfl, by simp [Hid], HO1.out, HR1.out, HG1.out, HL1.out⟩
  case round =>
    obtain ⟨r, p1, G, hrn, rfl, hp1, HGl, HGs, HO, HR, HG, HL⟩ := hrel
    clear HO1 HR1 HG1 HL1
    by_cases hlt : r < n
    · obtain ⟨wo, rfl⟩ : ∃ wo : World, wo = wr := ⟨_, rfl⟩
      have hwo : w.heap.size ≤ wo.heap.size := HG.out.size
      go_wp2
      go_loopw [10, 11, 12] (fun v i t wi => ∃ (k p' : Nat) (R : List UInt8), k ≤ m ∧ i = .int .i64 k ∧ p' ≤ p + 1 + 12 * r + 2 * k ∧ Hid (R.length = k) ∧ Hid (wi.ownsRow wo.heap.size 5 1 v k (bv R)) ∧ Hid (wi.ownsRow w.heap.size 9 1 u7 r (sv G)) ∧ Hid (Rdr wi rb A l.length c p') ∧ Hid (w.grownBy wi (some rb)) ∧ Hid (Rd wi B A (bv l)) ∧ wo.heap.size ≤ wi.heap.size) (fun _ i _ _ => m - (intOf i).toNat)
      case atStart => exact ⟨0, p1, [], Nat.zero_le _, rfl, by omega, rfl, own_empty wo _, HO.out.alloc _, HR.out.alloc _, grown_alloc HG.out _, HL.out.below ((below_alloc1 wo _).mono (by omega)), by simp⟩
      case round =>
        obtain ⟨k, p2, R, hk, rfl, hp2, HRl, HRo, HOo, HRr, HGg, HLl, hwi⟩ := hrel
        by_cases hkm : k < m
        · go_wp2_with fail
          refine (pick_any l A c rb p2 B 3 _ HRr.out HLl.out hB (by omega) hll (by omega) (by omega)).mono ?_
          rintro e w2 ⟨vd, rfl, hvd, hr2, hg2⟩
          have HRo2 := Lib.hid (own_pick HRo.out HRr.out hg2 (by decide))
          have HOo2 := Lib.hid (own_pick HOo.out HRr.out hg2 (by decide))
          have HG2 := Lib.hid (grown_trans HGg.out hg2)
          have HL2 := Lib.hid (HLl.out.grown hg2 (by omega) (fun g hg => by injection hg with hg; omega))
          have HR2 := Lib.hid hr2
          have hw2 : wo.heap.size ≤ w2.heap.size := Nat.le_trans hwi hg2.size
          clear HRo HOo HRr HGg HLl hr2 hg2 HO HR HG HL
          have hvd3 : vd < 3 := by omega
          clear hvd
          have hk3 : k + 1 ≤ maxLen := by simp only [maxLen]; omega
          have hk4 : (k + 1) * 1 ≤ 140737488355328 := by omega
          have hrb2 : rb < w2.heap.size := HR2.out.lt
          by_cases hk0 : kd = 0
          · have hb0 : ((kd : Int) == 0) = true := by rw [hk0]; rfl
            have hb1 : ((kd : Int) == 1) = false := by rw [hk0]; rfl
            clear hk0
            go_wp2_with (at_builtin; refine wpList_append_own _ rfl _ _ 22 rfl wo.heap.size 5 j0 (.int .u8 0) 1 1 Try.underlying22 hj hy0 hy1 hy2 rfl (by decide) _ _ _ rfl (HRo2.out.alloc _) ⟨(w2).heap.size, 0, none⟩ 1 1 [_] rfl rfl (cell_one_new _ _ _) (one_int _ _) hk3 hk4 (size_alloc_le hw2 _) ?_)
            all_goals
              intro v' w9 hown9 hgrow9 _
              obtain ⟨R', hRl, hRo⟩ := bv_grow hown9 HRl.out
              have HO9 := Lib.hid (own_kept_ne (HOo2.out.alloc _) (HRo2.out.alloc _) (by decide) hgrow9)
              have HG9 := Lib.hid (grown_own (grown_alloc HG2.out _) hgrow9 (fun g hg => Nat.le_trans hwo (own_ge HRo2.out g hg)))
              have HL9 := Lib.hid ((HL2.out.below ((below_alloc1 w2 _).mono (by omega))).grown hgrow9 (size_alloc_le (by omega) _) (fun g hg => Nat.le_trans (by omega) (own_ge HRo2.out g hg)))
              have HD9 := Lib.hid (Rdr.keep (HR2.out.alloc _) hgrow9 (own_ne_rdr HRo2.out HR2.out (by decide)))
              have hz9 : wo.heap.size ≤ w9.heap.size := Nat.le_trans hw2 (Nat.le_trans (by simp) hgrow9.size)
              clear hown9 hgrow9
              have HRl' := Lib.hid hRl
              have HRo' := Lib.hid hRo
              clear hRl hRo
              go_wp2
              go_roundw
              case rel => exact ⟨k + 1, p2 + 1, R', by omega, by go_num, by omega, HRl'.out, HRo'.out, HO9.out, HD9.out, HG9.out, HL9.out, hz9⟩
              case measure => simp [intOf]; omega
          · by_cases hk1 : kd = 1
            · have hb0 : ((kd : Int) == 0) = false := by rw [hk1]; rfl
              have hb1 : ((kd : Int) == 1) = true := by rw [hk1]; rfl
              clear hk1 hk0
              go_wp2_with fail
              refine (pick_any l A c rb (p2 + 1) B 3 _ HR2.out HL2.out hB (by omega) hll (by omega) (by omega)).mono ?_
              rintro e w3 ⟨vf, rfl, hvf, hr3, hg3⟩
              have HRo3 := Lib.hid (own_pick HRo2.out HR2.out hg3 (by decide))
              have HOo3 := Lib.hid (own_pick HOo2.out HR2.out hg3 (by decide))
              have HG3 := Lib.hid (grown_trans HG2.out hg3)
              have HL3 := Lib.hid (HL2.out.grown hg3 (by omega) (fun g hg => by injection hg with hg; omega))
              have HR3 := Lib.hid hr3
              have hw3 : wo.heap.size ≤ w3.heap.size := Nat.le_trans hw2 hg3.size
              have hrb3 : rb < w3.heap.size := hr3.lt
              clear HRo2 HOo2 HG2 HL2 HR2 hr3 hg3
              go_wp2_with (at_builtin; refine wpList_append_own _ rfl _ _ 22 rfl wo.heap.size 5 j0 (.int .u8 0) 1 1 Try.underlying22 hj hy0 hy1 hy2 rfl (by decide) _ _ _ rfl (HRo3.out.alloc _) ⟨(w3).heap.size, 0, none⟩ 1 1 [_] rfl rfl (cell_one_new _ _ _) (one_int _ _) hk3 hk4 (size_alloc_le hw3 _) ?_)
              all_goals
                intro v' w9 hown9 hgrow9 _
                obtain ⟨R', hRl, hRo⟩ := bv_grow hown9 HRl.out
                have HO9 := Lib.hid (own_kept_ne (HOo3.out.alloc _) (HRo3.out.alloc _) (by decide) hgrow9)
                have HG9 := Lib.hid (grown_own (grown_alloc HG3.out _) hgrow9 (fun g hg => Nat.le_trans hwo (own_ge HRo3.out g hg)))
                have HL9 := Lib.hid ((HL3.out.below ((below_alloc1 w3 _).mono (by omega))).grown hgrow9 (size_alloc_le (by omega) _) (fun g hg => Nat.le_trans (by omega) (own_ge HRo3.out g hg)))
                have HD9 := Lib.hid (Rdr.keep (HR3.out.alloc _) hgrow9 (own_ne_rdr HRo3.out HR3.out (by decide)))
                have hz9 : wo.heap.size ≤ w9.heap.size := Nat.le_trans hw3 (Nat.le_trans (by simp) hgrow9.size)
                clear hown9 hgrow9
                have HRl' := Lib.hid hRl
                have HRo' := Lib.hid hRo
                clear hRl hRo
                go_wp2
                go_roundw
                case rel => exact ⟨k + 1, p2 + 1 + 1, R', by omega, by go_num, by omega, HRl'.out, HRo'.out, HO9.out, HD9.out, HG9.out, HL9.out, hz9⟩
                case measure => simp [intOf]; omega
            · have hb0 : ((kd : Int) == 0) = false := beq_eq_false_iff_ne.2 (by omega)
              have hb1 : ((kd : Int) == 1) = false := beq_eq_false_iff_ne.2 (by omega)
              go_wp2_with (at_builtin; refine wpList_append_own _ rfl _ _ 22 rfl wo.heap.size 5 j0 (.int .u8 0) 1 1 Try.underlying22 hj hy0 hy1 hy2 rfl (by decide) _ _ _ rfl (HRo2.out.alloc _) ⟨(w2).heap.size, 0, none⟩ 1 1 [_] rfl rfl (cell_one_new _ _ _) (one_int _ _) hk3 hk4 (size_alloc_le hw2 _) ?_)
              all_goals
                intro v' w9 hown9 hgrow9 _
                obtain ⟨R', hRl, hRo⟩ := bv_grow hown9 HRl.out
                have HO9 := Lib.hid (own_kept_ne (HOo2.out.alloc _) (HRo2.out.alloc _) (by decide) hgrow9)
                have HG9 := Lib.hid (grown_own (grown_alloc HG2.out _) hgrow9 (fun g hg => Nat.le_trans hwo (own_ge HRo2.out g hg)))
                have HL9 := Lib.hid ((HL2.out.below ((below_alloc1 w2 _).mono (by omega))).grown hgrow9 (size_alloc_le (by omega) _) (fun g hg => Nat.le_trans (by omega) (own_ge HRo2.out g hg)))
                have HD9 := Lib.hid (Rdr.keep (HR2.out.alloc _) hgrow9 (own_ne_rdr HRo2.out HR2.out (by decide)))
                have hz9 : wo.heap.size ≤ w9.heap.size := Nat.le_trans hw2 (Nat.le_trans (by simp) hgrow9.size)
                clear hown9 hgrow9
                have HRl' := Lib.hid hRl
                have HRo' := Lib.hid hRo
                clear hRl hRo
                go_wp2
                go_roundw
                case rel => exact ⟨k + 1, p2 + 1, R', by omega, by go_num, by omega, HRl'.out, HRo'.out, HO9.out, HD9.out, HG9.out, HL9.out, hz9⟩
                case measure => simp [intOf]; omega
        · have HKM := Lib.hid (show k = m by omega)
          obtain ⟨A', c', rfl, hc1, hc2⟩ := own_form HRo.out
          have hcv := run_bytes_text (P := Try.prog) wr 22 9 5 Try.underlying22 Try.underlying5 Try.underlying9 A' c' _ _ (Rd.of_own HRo.out)
          rw [HRl.out] at hcv
          have hr5 : r + 1 ≤ maxLen := by simp only [maxLen]; omega
          have hr6 : (r + 1) * 16 ≤ 140737488355328 := by omega
          have hwz : w.heap.size ≤ wr.heap.size := HGg.out.size
          have hrb3 : rb < wr.heap.size := HRr.out.lt
          clear HO HR HG HL
          go_wp2_with (at_builtin; refine wpList_append_own _ rfl _ _ 23 rfl w.heap.size 9 i0 (.string ⟨#[]⟩) 1 16 Try.underlying23 hi hz0 hz1 hz2 rfl (by decide) _ _ _ rfl (HOo.out.alloc _) ⟨wr.heap.size, 0, none⟩ 1 1 [.string (bs R)] rfl rfl (cell_one_new _ _ _) (one_str _) hr5 hr6 (size_alloc_le hwz _) ?_)
          intro v' w9 hown9 hgrow9 _
          have HO9 := Lib.hid (show w9.ownsRow w.heap.size 9 1 v' (r + 1) (sv (G ++ [bs R])) by rw [sv_snoc]; exact hown9)
          have HG9 := Lib.hid (grown_own (grown_alloc HGg.out _) hgrow9 (fun g hg => own_ge HOo.out g hg))
          have HL9 := Lib.hid ((HLl.out.below ((below_alloc1 wr _).mono (by omega))).grown hgrow9 (size_alloc_le (by omega) _) (fun g hg => Nat.le_trans (by omega) (own_ge HOo.out g hg)))
          have HD9 := Lib.hid (Rdr.keep (HRr.out.alloc _) hgrow9 (own_ne_rdr HOo.out HRr.out (by decide)))
          have HGl' := Lib.hid (show (G ++ [bs R]).length = r + 1 by rw [List.length_append, HGl.out]; rfl)
          have HGs' : Hid (∀ s ∈ G ++ [bs R], s.size = m) := by
            intro s hs
            rcases List.mem_append.1 hs with h | h
            · exact HGs.out s h
            · rw [List.mem_singleton.1 h, bs_size, HRl.out, HKM.out]
          clear hown9 hgrow9 hcv
          go_wp2
          go_roundw
          case rel => exact ⟨r + 1, p2, G ++ [bs R], by omega, by go_num, by omega, HGl'.out, HGs'.out, HO9.out, HD9.out, HG9.out, HL9.out⟩
          case measure => simp [intOf]; omega
    · have hrn' : G.length = n := by have := HGl.out; omega
      obtain ⟨A', c', rfl, hc1, hc2⟩ := own_form HO.out
      have HN := Lib.hid hrn'
      have HRN := Lib.hid (show r = n by omega)
      clear hrn'
      go_wp2
      go_ret
      refine ⟨G, A', c', p1, by rw [HN.out, ← HRN.out]; rfl, by rw [HN.out, ← HRN.out]; exact HO.out, by rw [HN.out]; exact Nat.le_refl _, by rw [HN.out]; exact Nat.le_refl _, fun s hs => by rw [HGs.out s hs]; exact ⟨hm1, Nat.le_refl _⟩, HR.out, by omega, HG.out⟩
end Go.Proofs.Ythjllnabjnjpmaa
