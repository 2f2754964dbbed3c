/-
  CONTRACTS: l1Done, l1Beside, GridBeside, GridUnder of the program and of the reference.
-/
import Derived.Test.YtjnelfgjglpchaaJ
namespace Go.Proofs.Ytjnelfgjglpchaa
open Go.RowKit

def orNone2 (b : Bool) (g : List ByteArray) : List ByteArray := if b then g else []

theorem l1Done_any (A : Option Addr) (c base : Nat) (g : List ByteArray) (w : World) (ho : w.ownsRow base 9 1 (.slice A g.length c) g.length (sv g)) (hb : base ≤ w.heap.size) (hm : g.length ≤ maxLen) (hs : ∀ s ∈ g, s.size ≤ maxLen) :
    Calls Try.prog 76 #[.slice A g.length c] w fun e w' => ∃ A' c', e = .returned (.tuple #[.slice A' (orNone2 (gridB g) g).length c', .bool (gridB g)]) ∧
      w'.ownsRow base 9 1 (.slice A' (orNone2 (gridB g) g).length c') (orNone2 (gridB g) g).length (sv (orNone2 (gridB g) g)) ∧ Below w.heap.size w w' := by
  have hG := sGridIn_any A c g w _ (Rd.of_own ho) hm hs
  cases hg : gridB g
  · rw [hg] at hG
    have HG := Lib.hid hG
    have HO : Hid (base ≤ w.heap.size) := hb
    refine (show Calls Try.prog 76 #[.slice A g.length c] w (fun e w' => FreshSB [] false w e w') from ?_).mono fun e w' ⟨A2, c2, h1, h2, h3⟩ => ⟨A2, c2, h1, own_mono h2 hb, h3⟩
    clear hg hG hm hs ho hb
    go_enter Try.func76, Try.ntmps76
    go_wp2_with fail
    refine HG.out.mono ?_
    rintro e w1 ⟨rfl, hd⟩
    go_wp2_with fail
    refine (l1None_any _).mono ?_
    rintro e w2 ⟨A2, c2, rfl, ho, hb⟩
    go_wp2
    go_ret2
    exact ⟨A2, c2, rfl, own_mono ho (hd.below 0).size, below_next (hd.below _) hb⟩
  · rw [hg] at hG
    have HG := Lib.hid hG
    have HO := Lib.hid ho
    refine (show Calls Try.prog 76 #[.slice A g.length c] w (fun e w' => e = .returned (.tuple #[.slice A g.length c, .bool true]) ∧ Dr w w') from ?_).mono fun e w' ⟨h1, h2⟩ => ⟨A, c, h1, own_keep HO.out (h2.below _), h2.below _⟩
    clear hg hG hm hs ho hb
    go_enter Try.func76, Try.ntmps76
    go_wp2_with fail
    refine HG.out.mono ?_
    rintro e w1 ⟨rfl, hd⟩
    go_wp2
    go_ret2
    exact ⟨rfl, hd⟩

/-! ### grids beside each other -/
def gBeside (g h : List ByteArray) : List ByteArray := List.zipWith (· ++ ·) g h
theorem gBeside_length {g h : List ByteArray} (hl : g.length = h.length) : (gBeside g h).length = g.length := by unfold gBeside; rw [List.length_zipWith, hl, Nat.min_self]
theorem gBeside_take {g h : List ByteArray} (k : Nat) (h1 : k < g.length) (h2 : k < h.length) : (gBeside g h).take (k + 1) = (gBeside g h).take k ++ [g[k] ++ h[k]] := by
  have hl : k < (gBeside g h).length := by unfold gBeside; rw [List.length_zipWith]; omega
  rw [List.take_succ_eq_append_getElem hl]
  simp [gBeside]
theorem gBeside_small {g h : List ByteArray} (hg : gridB g = true) (hh : gridB h = true) : ∀ s ∈ gBeside g h, s.size ≤ 10 := by
  intro s hs
  obtain ⟨k, hk, rfl⟩ := List.mem_iff_getElem.1 hs
  have hk' := hk
  unfold gBeside at hk'
  rw [List.length_zipWith] at hk'
  have h1 := grid_small hg _ (List.getElem_mem (show k < g.length by omega))
  have h2 := grid_small hh _ (List.getElem_mem (show k < h.length by omega))
  have e : (gBeside g h)[k] = g[k] ++ h[k] := by simp [gBeside]
  rw [e, ByteArray.size_append]; omega
def besideB (g h : List ByteArray) : Bool := gridB g && gridB h && (g.length == h.length) && gridB (gBeside g h)

set_option maxHeartbeats 800000 in
theorem l1Beside_any (A B : Option Addr) (c d : Nat) (g h : List ByteArray) (w : World) (hr : Rd w w.heap.size A (sv g)) (hr2 : Rd w w.heap.size B (sv h)) (hg : gridB g = true) (hh : gridB h = true) (hl : g.length = h.length) :
    Calls Try.prog 77 #[.slice A g.length c, .slice B h.length d] w (FreshS (gBeside g h) w) := by
  obtain ⟨i0, hi, hz0, hz1, hz2⟩ := info_parts infoStr
  have HG := Lib.hid hg
  have HH := Lib.hid hh
  have HL := Lib.hid hl
  have hlen := grid_len hg
  obtain ⟨hlen1, hlen2⟩ := hlen
  obtain ⟨b1, off1, rfl, hb1, hx1⟩ := hr.at_ (sv_get g 0 (by omega))
  obtain ⟨b2, off2, rfl, hb2, hx2⟩ := hr2.at_ (sv_get h 0 (by have := HL.out; omega))
  clear hx1 hx2 hg hh hl
  go_enter Try.func77, Try.ntmps77
  go_wp2
  go_loopw [5, 6] (fun v i wr => ∃ k : Nat, k ≤ g.length ∧ i = .int .i64 k ∧ Hid (wr.ownsRow w.heap.size 9 1 v k (sv ((gBeside g h).take k))) ∧ Hid (Below w.heap.size w wr)) (fun _ i _ => g.length - (intOf i).toNat)
  case atStart => exact ⟨0, Nat.zero_le _, rfl, own_empty w _, below_alloc1 w _⟩
  case round =>
    obtain ⟨k, hk, rfl, HO, HS⟩ := hrel
    by_cases hlt : k < g.length
    · have hlt2 : k < h.length := by have := HL.out; omega
      have hc1 := (hr.below HS.out).cell (sv_get g k hlt)
      have hc2 := (hr2.below HS.out).cell (sv_get h k hlt2)
      have HG1 := Lib.hid (sv_get g k hlt)
      have HG2 := Lib.hid (sv_get h k hlt2)
      have HR1 := Lib.hid hr
      have HR2 := Lib.hid hr2
      have hs1 := grid_small HG.out _ (List.getElem_mem hlt)
      have hs2 := grid_small HH.out _ (List.getElem_mem hlt2)
      have HT := Lib.hid (gBeside_take k hlt hlt2)
      have hi1 : (k : Int) < (g.length : Int) := Int.ofNat_lt.2 hlt
      have hi2 : (k : Int) < (h.length : Int) := Int.ofNat_lt.2 hlt2
      have hi0 : (0 : Int) ≤ (k : Int) := Int.natCast_nonneg _
      generalize g[k] = s1 at *
      generalize h[k] = s2 at *
      have hsum : ¬ 9223372036854775807 < s1.size + s2.size := by omega
      have hBz : w.heap.size ≤ wr.heap.size := HS.out.size
      have hk5 : k + 1 ≤ 5 := by omega
      clear hr hr2
      go_wp2_with fail
      go_region_held3 (fun w' => w'.cell? ⟨b1, off1 + k, none⟩ = some (.string s1) ∧ w'.cell? ⟨b2, off2 + k, none⟩ = some (.string s2))
        (first | go_keep | exact ⟨(HR1.out.below (below_grown ((HS.out.alloc HS.out.size (.cells #[.string (s1 ++ s2)] 9)).drew) hgrow2 (fun g hg => own_ge HO.out g hg))).cell HG1.out, (HR2.out.below (below_grown ((HS.out.alloc HS.out.size (.cells #[.string (s1 ++ s2)] 9)).drew) hgrow2 (fun g hg => own_ge HO.out g hg))).cell HG2.out⟩)
        ((refine step_append_lies _ (by rfl) _ _ _ (by rfl) w.heap.size 9 i0 _ 1 16 Try.underlying22 hi hz0 hz1 hz2 rfl (by omega) _ k (sv ((gBeside g h).take k)) (by rfl) ((HO.out.alloc _).drew) ⟨wr.heap.size, 0, none⟩ 1 1 [.string (s1 ++ s2)] (by rfl) (by rfl) (World.news_of_block (cs := #[.string (s1 ++ s2)]) (t := 9) (fr := (0, 0)) (heap_alloc_new wr _)) (by simp [Value.oneCell']) (by omega) (by simp only [maxLen]; omega) (by omega) (by simp; omega) (wr.heap.size + 1) (by simp) ?_; intro gg cap w2 hown2 hgrow2 hat hlt9))
      have HS3 := Lib.hid (below_grown ((HS.out.alloc HS.out.size (.cells #[.string (s1 ++ s2)] 9)).drew) hgrow2 (fun g hg => own_ge HO.out g hg))
      have HO3 := Lib.hid hown2
      clear hown2 hgrow2 HO HS hat hlt9
      go_wp2
      go_roundw
      case rel => exact ⟨k + 1, by omega, by go_num, (by rw [HT.out, sv_snoc]; exact HO3.out), HS3.out⟩
      case measure => simp [intOf]; omega
    · have hkn : k = g.length := by omega
      obtain ⟨A', c', rfl, hc1, hc2⟩ := own_form HO.out
      have HK := Lib.hid (show (gBeside g h).take k = gBeside g h from List.take_of_length_le (by rw [gBeside_length HL.out]; omega))
      have HKN := Lib.hid (show (gBeside g h).length = k by rw [gBeside_length HL.out]; omega)
      clear hr hr2 hkn
      go_wp2
      go_ret
      exact ⟨A', c', by rw [HKN.out]; rfl, (by rw [HKN.out, ← HK.out]; exact HO.out), HS.out⟩
theorem besideB_g {g h : List ByteArray} (e : gridB g = false) : besideB g h = false := by unfold besideB; rw [e]; rfl
theorem besideB_h {g h : List ByteArray} (e : gridB h = false) : besideB g h = false := by unfold besideB; rw [e, Bool.and_false]; rfl
theorem besideB_l {g h : List ByteArray} (e : g.length ≠ h.length) : besideB g h = false := by unfold besideB; rw [beq_eq_false_iff_ne.2 e, Bool.and_false]; rfl
theorem besideB_all {g h : List ByteArray} (e1 : gridB g = true) (e2 : gridB h = true) (e3 : g.length = h.length) : besideB g h = gridB (gBeside g h) := by unfold besideB; rw [e1, e2, beq_iff_eq.2 e3]; rfl
theorem gBeside_maxLen {g h : List ByteArray} (hg : gridB g = true) (hh : gridB h = true) : ∀ s ∈ gBeside g h, s.size ≤ maxLen := fun s hs => by
  have := gBeside_small hg hh s hs
  simp only [maxLen]; omega

set_option maxHeartbeats 800000 in
theorem sGridBeside_any (A B : Option Addr) (c d : Nat) (g h : List ByteArray) (w : World) (hr : Rd w w.heap.size A (sv g)) (hr2 : Rd w w.heap.size B (sv h)) (hm : g.length ≤ maxLen) (hs : ∀ s ∈ g, s.size ≤ maxLen) (hm2 : h.length ≤ maxLen) (hs2 : ∀ s ∈ h, s.size ≤ maxLen) :
    Calls Try.prog 37 #[.slice A g.length c, .slice B h.length d] w (FreshSB (orNone2 (besideB g h) (gBeside g h)) (besideB g h) w) := by
  have hG := sGridIn_any A c g w _ hr hm hs
  have hH := fun w' (h' : Rd w' w.heap.size B (sv h)) => sGridIn_any B d h w' _ h' hm2 hs2
  have HG := Lib.hid hG
  have HH := Lib.hid hH
  clear hG hH
  cases hg : gridB g
  · have HB2 := Lib.hid (besideB_g (h := h) hg)
    have H := Lib.hid (show orNone2 (besideB g h) (gBeside g h) = [] by rw [HB2.out]; rfl)
    rw [hg] at HG
    clear hg hm hs hm2 hs2
    go_enter Try.func37, Try.ntmps37
    go_wp2_with fail
    refine HG.out.mono ?_
    rintro e w1 ⟨rfl, hd⟩
    go_wp2_with fail
    refine (l1None_any _).mono ?_
    rintro e w2 ⟨A2, c2, rfl, ho, hb⟩
    go_wp2
    go_ret2
    rw [H.out, HB2.out]
    exact ⟨A2, c2, rfl, own_mono ho (hd.below 0).size, below_next (hd.below _) hb⟩
  · cases hh : gridB h
    · have HB2 := Lib.hid (besideB_h (g := g) hh)
      have H := Lib.hid (show orNone2 (besideB g h) (gBeside g h) = [] by rw [HB2.out]; rfl)
      rw [hg] at HG
      rw [hh] at HH
      clear hg hh hm hs hm2 hs2
      go_enter Try.func37, Try.ntmps37
      go_wp2_with fail
      refine HG.out.mono ?_
      rintro e w0 ⟨rfl, hd0⟩
      go_wp2_with fail
      refine (HH.out _ (hr2.below (hd0.below _))).mono ?_
      rintro e w1 ⟨rfl, hd1⟩
      have hd := hd0.trans hd1
      clear hd0 hd1
      go_wp2_with fail
      refine (l1None_any _).mono ?_
      rintro e w2 ⟨A2, c2, rfl, ho, hb⟩
      go_wp2
      go_ret2
      rw [H.out, HB2.out]
      exact ⟨A2, c2, rfl, own_mono ho (hd.below 0).size, below_next (hd.below _) hb⟩
    · rw [hg] at HG
      rw [hh] at HH
      have HGG := Lib.hid hg
      have HHH := Lib.hid hh
      by_cases hl : g.length = h.length
      · have HB2 := Lib.hid (besideB_all hg hh hl)
        have HL := Lib.hid hl
        have hne : ((g.length : Int) != (h.length : Int)) = false := by rw [hl]; simp
        have HLB := Lib.hid (gBeside_length hl)
        have hlen := grid_len hg
        have HSM := Lib.hid (gBeside_maxLen hg hh)
        clear hg hh hm hs hm2 hs2 hl
        go_enter Try.func37, Try.ntmps37
        go_wp2_with fail
        refine HG.out.mono ?_
        rintro e w0 ⟨rfl, hd0⟩
        go_wp2_with fail
        refine (HH.out _ (hr2.below (hd0.below _))).mono ?_
        rintro e w1 ⟨rfl, hd1⟩
        have hd := hd0.trans hd1
        clear hd0 hd1
        go_wp2_with fail
        refine (l1Beside_any _ _ _ _ _ _ _ (hr.later (hd.below _)) (hr2.later (hd.below _)) HGG.out HHH.out HL.out).mono ?_
        rintro e w2 ⟨A2, c2, rfl, ho2, hb2⟩
        go_wp2_with fail
        refine (l1Done_any _ _ _ _ _ ho2 hb2.size (by rw [HLB.out]; simp only [maxLen]; omega) HSM.out).mono ?_
        rintro e w3 ⟨A3, c3, rfl, ho3, hb3⟩
        go_wp2
        go_ret2
        rw [HB2.out]
        exact ⟨A3, c3, rfl, own_mono ho3 (hd.below 0).size, below_next (below_next (hd.below _) hb2) hb3⟩
      · have HB2 := Lib.hid (besideB_l (g := g) (h := h) hl)
        have H := Lib.hid (show orNone2 (besideB g h) (gBeside g h) = [] by rw [HB2.out]; rfl)
        have hne : ((g.length : Int) != (h.length : Int)) = true := by rw [bne_iff_ne]; omega
        clear hg hh hm hs hm2 hs2 hl
        go_enter Try.func37, Try.ntmps37
        go_wp2_with fail
        refine HG.out.mono ?_
        rintro e w0 ⟨rfl, hd0⟩
        go_wp2_with fail
        refine (HH.out _ (hr2.below (hd0.below _))).mono ?_
        rintro e w1 ⟨rfl, hd1⟩
        have hd := hd0.trans hd1
        clear hd0 hd1
        go_wp2_with fail
        refine (l1None_any _).mono ?_
        rintro e w2 ⟨A2, c2, rfl, ho, hb⟩
        go_wp2
        go_ret2
        rw [H.out, HB2.out]
        exact ⟨A2, c2, rfl, own_mono ho (hd.below 0).size, below_next (hd.below _) hb⟩

set_option maxHeartbeats 1600000 in
theorem iGridBeside_any (A B : Option Addr) (c d : Nat) (g h : List ByteArray) (w : World) (hr : Rd w w.heap.size A (sv g)) (hr2 : Rd w w.heap.size B (sv h)) (hm : g.length ≤ maxLen) (hs : ∀ s ∈ g, s.size ≤ maxLen) (hm2 : h.length ≤ maxLen) (hs2 : ∀ s ∈ h, s.size ≤ maxLen) :
    Calls Try.prog 36 #[.slice A g.length c, .slice B h.length d] w (FreshSB (orNone2 (besideB g h) (gBeside g h)) (besideB g h) w) := by
  have HGi := Lib.hid (iGridIn_any A c g w _ hr hm hs)
  have HHi := Lib.hid (iGridIn_any B d h w _ hr2 hm2 hs2)
  cases hg : gridB g
  · have HB2 := Lib.hid (besideB_g (h := h) hg)
    have H := Lib.hid (show orNone2 (besideB g h) (gBeside g h) = [] by rw [HB2.out]; rfl)
    rw [hg] at HGi
    clear hg hm hs hm2 hs2
    go_enter Try.func36, Try.ntmps36
    go_wp2_with fail
    refine HGi.out.mono ?_
    rintro e w1 ⟨rfl, rfl⟩
    go_wp2
    go_ret2
    rw [H.out, HB2.out]
    exact fresh_nil (Below.refl _ _) rfl
  · cases hh : gridB h
    · have HB2 := Lib.hid (besideB_h (g := g) hh)
      have H := Lib.hid (show orNone2 (besideB g h) (gBeside g h) = [] by rw [HB2.out]; rfl)
      rw [hg] at HGi
      rw [hh] at HHi
      clear hg hh hm hs hm2 hs2
      go_enter Try.func36, Try.ntmps36
      go_wp2_with fail
      refine HGi.out.mono ?_
      rintro e w0 ⟨rfl, rfl⟩
      go_wp2_with fail
      refine HHi.out.mono ?_
      rintro e w1 ⟨rfl, rfl⟩
      go_wp2
      go_ret2
      rw [H.out, HB2.out]
      exact fresh_nil (Below.refl _ _) rfl
    · rw [hg] at HGi
      rw [hh] at HHi
      by_cases hl : g.length = h.length
      · have HB2 := Lib.hid (besideB_all hg hh hl)
        obtain ⟨i0, hi, hz0, hz1, hz2⟩ := info_parts infoStr
        have HG := Lib.hid hg
        have HH := Lib.hid hh
        have HL := Lib.hid hl
        have hne : ((g.length : Int) != (h.length : Int)) = false := by rw [hl]; simp
        have hlen := grid_len hg
        have HSM := Lib.hid (gBeside_maxLen hg hh)
        obtain ⟨hlen1, hlen2⟩ := hlen
        obtain ⟨b1, off1, rfl, hb1, hx1⟩ := hr.at_ (sv_get g 0 (by omega))
        obtain ⟨b2, off2, rfl, hb2, hx2⟩ := hr2.at_ (sv_get h 0 (by have := HL.out; omega))
        clear hx1 hx2 hg hh hl hm hs hm2 hs2
        go_enter Try.func36, Try.ntmps36
        go_wp2_with fail
        refine HGi.out.mono ?_
        rintro e w0 ⟨rfl, rfl⟩
        go_wp2_with fail
        refine HHi.out.mono ?_
        rintro e w1 ⟨rfl, rfl⟩
        go_wp2
        go_loopw [6, 27] (fun v i wr => ∃ k : Nat, k ≤ g.length ∧ i = .int .i64 k ∧ Hid (wr.ownsRow w.heap.size 9 1 v k (sv ((gBeside g h).take k))) ∧ Hid (Below w.heap.size w wr)) (fun _ i _ => g.length - (intOf i).toNat)
        case atStart => exact ⟨0, Nat.zero_le _, rfl, own_empty w _, below_alloc1 w _⟩
        case round =>
          obtain ⟨k, hk, rfl, HO, HS⟩ := hrel
          by_cases hlt : k < g.length
          · have hlt2 : k < h.length := by have := HL.out; omega
            have hc1 := (hr.below HS.out).cell (sv_get g k hlt)
            have hc2 := (hr2.below HS.out).cell (sv_get h k hlt2)
            have HG1 := Lib.hid (sv_get g k hlt)
            have HG2 := Lib.hid (sv_get h k hlt2)
            have HR1 := Lib.hid hr
            have HR2 := Lib.hid hr2
            have hs1 := grid_small HG.out _ (List.getElem_mem hlt)
            have hs2 := grid_small HH.out _ (List.getElem_mem hlt2)
            have HT := Lib.hid (gBeside_take k hlt hlt2)
            have hi1 : (k : Int) < (g.length : Int) := Int.ofNat_lt.2 hlt
            have hi2 : (k : Int) < (h.length : Int) := Int.ofNat_lt.2 hlt2
            have hi0 : (0 : Int) ≤ (k : Int) := Int.natCast_nonneg _
            generalize g[k] = s1 at *
            generalize h[k] = s2 at *
            have hsum : ¬ 9223372036854775807 < s1.size + s2.size := by omega
            have hBz : w.heap.size ≤ wr.heap.size := HS.out.size
            have hk5 : k + 1 ≤ 5 := by omega
            clear hr hr2
            go_wp2_with fail
            go_region_held3 (fun w' => w'.cell? ⟨b1, off1 + k, none⟩ = some (.string s1) ∧ w'.cell? ⟨b2, off2 + k, none⟩ = some (.string s2))
              (first | go_keep | exact ⟨(HR1.out.below (below_grown ((HS.out.alloc HS.out.size (.cells #[.string (s1 ++ s2)] 9)).drew) hgrow2 (fun g hg => own_ge HO.out g hg))).cell HG1.out, (HR2.out.below (below_grown ((HS.out.alloc HS.out.size (.cells #[.string (s1 ++ s2)] 9)).drew) hgrow2 (fun g hg => own_ge HO.out g hg))).cell HG2.out⟩)
              ((refine step_append_lies _ (by rfl) _ _ _ (by rfl) w.heap.size 9 i0 _ 1 16 Try.underlying22 hi hz0 hz1 hz2 rfl (by omega) _ k (sv ((gBeside g h).take k)) (by rfl) ((HO.out.alloc _).drew) ⟨wr.heap.size, 0, none⟩ 1 1 [.string (s1 ++ s2)] (by rfl) (by rfl) (World.news_of_block (cs := #[.string (s1 ++ s2)]) (t := 9) (fr := (0, 0)) (heap_alloc_new wr _)) (by simp [Value.oneCell']) (by omega) (by simp only [maxLen]; omega) (by omega) (by simp; omega) (wr.heap.size + 1) (by simp) ?_; intro gg cap w2 hown2 hgrow2 hat hlt9))
            have HS3 := Lib.hid (below_grown ((HS.out.alloc HS.out.size (.cells #[.string (s1 ++ s2)] 9)).drew) hgrow2 (fun g hg => own_ge HO.out g hg))
            have HO3 := Lib.hid hown2
            clear hown2 hgrow2 HO HS hat hlt9
            go_wp2
            go_roundw
            case rel => exact ⟨k + 1, by omega, by go_num, (by rw [HT.out, sv_snoc]; exact HO3.out), HS3.out⟩
            case measure => simp [intOf]; omega
          · have hkn : k = g.length := by omega
            obtain ⟨A', c', rfl, hc1, hc2⟩ := own_form HO.out
            have HK := Lib.hid (show (gBeside g h).take k = gBeside g h from List.take_of_length_le (by rw [gBeside_length HL.out]; omega))
            have HKN := Lib.hid (show (gBeside g h).length = k by rw [gBeside_length HL.out]; omega)
            clear hr hr2 hkn
            have hIn := iGridIn_any A' c' (gBeside g h) wr wr.heap.size (Rd.of_own (by have := HO.out; rw [HK.out] at this; exact this)) (by have := HKN.out; simp only [maxLen]; omega) HSM.out
            rw [HKN.out] at hIn
            cases hb : gridB (gBeside g h)
            · rw [hb] at hIn
              have HIN := Lib.hid hIn
              rw [hb] at HB2
              have H := Lib.hid (show orNone2 (besideB g h) (gBeside g h) = [] by rw [HB2.out]; rfl)
              clear hIn hb
              go_wp2_with fail
              refine HIN.out.mono ?_
              rintro e w2 ⟨rfl, rfl⟩
              go_wp2
              go_ret2
              rw [H.out, HB2.out]
              exact fresh_nil HS.out rfl
            · rw [hb] at hIn
              have HIN := Lib.hid hIn
              rw [hb] at HB2
              have H := Lib.hid (show orNone2 (besideB g h) (gBeside g h) = gBeside g h by rw [HB2.out]; rfl)
              clear hIn hb
              go_wp2_with fail
              refine HIN.out.mono ?_
              rintro e w2 ⟨rfl, rfl⟩
              go_wp2
              go_ret2
              rw [H.out, HB2.out]
              exact ⟨A', c', by rw [HKN.out]; rfl, (by rw [HKN.out, ← HK.out]; exact HO.out), HS.out⟩
      · have HB2 := Lib.hid (besideB_l (g := g) (h := h) hl)
        have H := Lib.hid (show orNone2 (besideB g h) (gBeside g h) = [] by rw [HB2.out]; rfl)
        have hne : ((g.length : Int) != (h.length : Int)) = true := by rw [bne_iff_ne]; omega
        clear hg hh hm hs hm2 hs2 hl
        go_enter Try.func36, Try.ntmps36
        go_wp2_with fail
        refine HGi.out.mono ?_
        rintro e w0 ⟨rfl, rfl⟩
        go_wp2_with fail
        refine HHi.out.mono ?_
        rintro e w1 ⟨rfl, rfl⟩
        go_wp2
        go_ret2
        rw [H.out, HB2.out]
        exact fresh_nil (Below.refl _ _) rfl
theorem len_gridbeside (g h : List ByteArray) : (orNone2 (besideB g h) (gBeside g h)).length ≤ 100 := by
  cases hb : besideB g h
  · exact Nat.zero_le _
  · unfold besideB at hb
    have h1 := grid_len (Bool.and_eq_true_iff.1 hb).2
    show (gBeside g h).length ≤ 100
    omega
end Go.Proofs.Ytjnelfgjglpchaa
