/-
  CONTRACTS: GridPart of the program and of the reference.
-/
import Derived.Test.YthjllnabjnjpmaaJ
namespace Go.Proofs.Ythjllnabjnjpmaa
set_option maxRecDepth 100000
open Go.RowKit

def partB (g : List ByteArray) (top low left right : Int) : Bool :=
  gridB g && inB top 0 ((g.length : Int) - 1) && inB low top ((g.length : Int) - 1) && inB left 0 ((width g : Int) - 1) && inB right left ((width g : Int) - 1)
def gPart (g : List ByteArray) (t l a b : Nat) : List ByteArray := ((g.drop t).take (l + 1 - t)).map fun s => s.extract a (b + 1)
def partR (g : List ByteArray) (top low left right : Int) : List ByteArray := if partB g top low left right then gPart g top.toNat low.toNat left.toNat right.toNat else []
theorem partB_iff {g : List ByteArray} {top low left right : Int} : partB g top low left right = true ↔
    gridB g = true ∧ (0 ≤ top ∧ top ≤ low ∧ low < g.length) ∧ (0 ≤ left ∧ left ≤ right ∧ right < width g) := by
  unfold partB
  simp only [Bool.and_eq_true, inB_iff]
  constructor
  · rintro ⟨⟨⟨⟨h1, h2⟩, h3⟩, h4⟩, h5⟩
    exact ⟨h1, ⟨by omega, by omega, by omega⟩, ⟨by omega, by omega, by omega⟩⟩
  · rintro ⟨h1, h2, h3⟩
    exact ⟨⟨⟨⟨h1, by omega⟩, by omega⟩, by omega⟩, by omega⟩
theorem partB_no {g : List ByteArray} {top low left right : Int} (h : ¬ (gridB g = true ∧ (0 ≤ top ∧ top ≤ low ∧ low < g.length) ∧ (0 ≤ left ∧ left ≤ right ∧ right < width g))) : partB g top low left right = false := by
  rw [← Bool.not_eq_true, partB_iff]; exact h
theorem partR_no {g : List ByteArray} {top low left right : Int} (h : partB g top low left right = false) : partR g top low left right = [] := by unfold partR; rw [h]; rfl
theorem gPart_length {g : List ByteArray} {t l a b : Nat} (h1 : t ≤ l) (h2 : l < g.length) : (gPart g t l a b).length = l + 1 - t := by
  unfold gPart; rw [List.length_map, List.length_take, List.length_drop]; omega
theorem gPart_take {g : List ByteArray} {t l a b k : Nat} (h1 : t + k ≤ l) (h2 : l < g.length) : (gPart g t l a b).take (k + 1) = (gPart g t l a b).take k ++ [(g[t + k]'(by omega)).extract a (b + 1)] := by
  rw [List.take_succ_eq_append_getElem (by rw [gPart_length (by omega) h2]; omega)]
  congr 2
  simp [gPart]
theorem len_gridpart (g : List ByteArray) (top low left right : Int) : (partR g top low left right).length ≤ 100 := by
  cases hb : partB g top low left right
  · rw [partR_no hb]; exact Nat.zero_le _
  · have h := partB_iff.1 hb
    have h1 := grid_len h.1
    unfold partR
    rw [hb, if_pos rfl, gPart_length (by omega) (by omega)]; omega

set_option maxHeartbeats 3200000 in
theorem iGridPart_any (A : Option Addr) (c : Nat) (g : List ByteArray) (top low left right : Int) (w : World) (hr : Rd w w.heap.size A (sv g)) (hcap : g.length ≤ c) (hm : g.length ≤ maxLen) (hs : ∀ s ∈ g, s.size ≤ maxLen) :
    Calls Try.prog 9 #[.slice A g.length c, .int .i64 top, .int .i64 low, .int .i64 left, .int .i64 right] w (FreshSB (partR g top low left right) (partB g top low left right) w) := by
  have HGi := Lib.hid (iGridIn_any A c g w _ hr hm hs)
  cases hg : gridB g
  · have HB2 := Lib.hid (partB_no (g := g) (top := top) (low := low) (left := left) (right := right) (by rw [hg]; exact fun x => Bool.noConfusion x.1))
    have H := Lib.hid (partR_no HB2.out)
    rw [hg] at HGi
    clear hg hm hs
    go_enter Try.func9, Try.ntmps9
    go_wp2_with fail
    refine HGi.out.mono ?_
    rintro e w1 ⟨rfl, rfl⟩
    go_wp2
    go_ret2
    rw [H.out, HB2.out]
    exact fresh_nil (Below.refl _ _) rfl
  · rw [hg] at HGi
    have HG := Lib.hid hg
    have hlen := grid_len hg
    have hwid := grid_width hg
    have hw0 := width_eq (g := g) (by omega)
    obtain ⟨b0, off, rfl, hb0, hc0⟩ := hr.at_ (sv_get g 0 (by omega))
    rw [Nat.add_zero] at hc0
    have HW := Lib.hid hw0
    have hgl : 0 < g.length := by omega
    have hsz0 : g[0].size ≤ 5 := by omega
    have hsz1 : 1 ≤ g[0].size := by omega
    generalize g[0] = s0 at *
    obtain ⟨hl1, hl2⟩ := hlen
    clear hw0 hm hs
    cases h1 : inB top 0 low
    · have HB2 := Lib.hid (partB_no (g := g) (top := top) (low := low) (left := left) (right := right) (by have := inB_iff_no.1 h1; omega))
      have H := Lib.hid (partR_no HB2.out)
      have H1 := Lib.hid h1
      clear hg h1 hwid
      go_enter Try.func9, Try.ntmps9
      go_wp2_with fail
      refine HGi.out.mono ?_
      rintro e w1 ⟨rfl, rfl⟩
      go_wp2_with fail
      refine (within_b _ _ _ _ H1.out _).mono ?_
      rintro e w1 ⟨rfl, rfl⟩
      go_wp2
      go_ret2
      rw [H.out, HB2.out]
      exact fresh_nil (Below.refl _ _) rfl
    · have H1 := Lib.hid h1
      have hq1 := inB_iff.1 h1
      by_cases h2 : (g.length : Int) ≤ low
      · have HB2 := Lib.hid (partB_no (g := g) (top := top) (low := low) (left := left) (right := right) (by omega))
        have H := Lib.hid (partR_no HB2.out)
        clear hg h1 hwid
        go_enter Try.func9, Try.ntmps9
        go_wp2_with fail
        refine HGi.out.mono ?_
        rintro e w1 ⟨rfl, rfl⟩
        go_wp2_with fail
        refine (within_b _ _ _ _ H1.out _).mono ?_
        rintro e w1 ⟨rfl, rfl⟩
        go_wp2
        go_ret2
        rw [H.out, HB2.out]
        exact fresh_nil (Below.refl _ _) rfl
      · have h2' : low < (g.length : Int) := by omega
        clear h2
        cases h3 : inB left 0 right
        · have HB2 := Lib.hid (partB_no (g := g) (top := top) (low := low) (left := left) (right := right) (by have := inB_iff_no.1 h3; omega))
          have H := Lib.hid (partR_no HB2.out)
          have H3 := Lib.hid h3
          clear hg h1 h3 hwid
          go_enter Try.func9, Try.ntmps9
          go_wp2_with fail
          refine HGi.out.mono ?_
          rintro e w1 ⟨rfl, rfl⟩
          go_wp2_with fail
          refine (within_b _ _ _ _ H1.out _).mono ?_
          rintro e w1 ⟨rfl, rfl⟩
          go_wp2_with fail
          refine (within_b _ _ _ _ H3.out _).mono ?_
          rintro e w1 ⟨rfl, rfl⟩
          go_wp2
          go_ret2
          rw [H.out, HB2.out]
          exact fresh_nil (Below.refl _ _) rfl
        · have H3 := Lib.hid h3
          have hq3 := inB_iff.1 h3
          by_cases h4 : (s0.size : Int) ≤ right
          · have HB2 := Lib.hid (partB_no (g := g) (top := top) (low := low) (left := left) (right := right) (by have := HW.out; omega))
            have H := Lib.hid (partR_no HB2.out)
            clear hg h1 h3 hwid
            go_enter Try.func9, Try.ntmps9
            go_wp2_with fail
            refine HGi.out.mono ?_
            rintro e w1 ⟨rfl, rfl⟩
            go_wp2_with fail
            refine (within_b _ _ _ _ H1.out _).mono ?_
            rintro e w1 ⟨rfl, rfl⟩
            go_wp2_with fail
            refine (within_b _ _ _ _ H3.out _).mono ?_
            rintro e w1 ⟨rfl, rfl⟩
            go_wp2
            go_ret2
            rw [H.out, HB2.out]
            exact fresh_nil (Below.refl _ _) rfl
          · have h4' : right < (s0.size : Int) := by omega
            clear h4
            have HB2 := Lib.hid (partB_iff.2 ⟨hg, ⟨hq1.1, hq1.2, h2'⟩, hq3.1, hq3.2, by have := HW.out; omega⟩)
            obtain ⟨t, rfl⟩ := Int.eq_ofNat_of_zero_le (show 0 ≤ top by omega)
            obtain ⟨l, rfl⟩ := Int.eq_ofNat_of_zero_le (show 0 ≤ low by omega)
            obtain ⟨a, rfl⟩ := Int.eq_ofNat_of_zero_le (show 0 ≤ left by omega)
            obtain ⟨b, rfl⟩ := Int.eq_ofNat_of_zero_le (show 0 ≤ right by omega)
            have H := Lib.hid (show partR g t l a b = gPart g t l a b by unfold partR; rw [HB2.out]; rfl)
            have hx1 : t ≤ l := by omega
            have hx2 : l < g.length := by omega
            have hx3 : a ≤ b := by omega
            have hx4 : b < s0.size := by omega
            have hdec1 : decide (g.length ≤ l) = false := decide_eq_false (by omega)
            have hdec2 : decide (s0.size ≤ b) = false := decide_eq_false (by omega)
            clear hg h1 h3 hwid
            obtain ⟨i0, hi, hz0, hz1, hz2⟩ := info_parts infoStr
            go_enter Try.func9, Try.ntmps9
            go_wp2_with fail
            refine HGi.out.mono ?_
            rintro e w1 ⟨rfl, rfl⟩
            go_wp2_with fail
            refine (within_b _ _ _ _ H1.out _).mono ?_
            rintro e w1 ⟨rfl, rfl⟩
            go_wp2_with fail
            refine (within_b _ _ _ _ H3.out _).mono ?_
            rintro e w1 ⟨rfl, rfl⟩
            go_wp2
            go_loopw [12, 52] (fun v i wr => ∃ k : Nat, k ≤ l + 1 - t ∧ i = .int .i64 k ∧ Hid (wr.ownsRow w.heap.size 9 1 v k (sv ((gPart g t l a b).take k))) ∧ Hid (Below w.heap.size w wr)) (fun _ i _ => l + 1 - t - (intOf i).toNat)
            case atStart => exact ⟨0, Nat.zero_le _, rfl, own_empty w _, below_alloc1 w _⟩
            case round =>
              obtain ⟨k, hk, rfl, HO, HS⟩ := hrel
              by_cases hlt : k < l + 1 - t
              · have hidx : t + k < g.length := by omega
                have hc1 := (hr.below HS.out).cell (sv_get g (t + k) hidx)
                rw [← Nat.add_assoc] at hc1
                have hsk : g[t + k].size ≤ 5 := grid_small HG.out _ (List.getElem_mem _)
                have hska : b < g[t + k].size := by rw [grid_row HG.out _ hidx, HW.out]; exact hx4
                have HT := Lib.hid (gPart_take (a := a) (b := b) (show t + k ≤ l by omega) hx2)
                generalize g[t + k] = s1 at *
                clear hr
                have hBz : w.heap.size ≤ wr.heap.size := HS.out.size
                go_wp2_with (at_builtin; refine wpList_append_own _ rfl _ _ 23 rfl (w.heap.size) 9 i0 (.string ⟨#[]⟩) 1 16 Try.underlying23 hi hz0 hz1 hz2 rfl (by decide) _ _ _ rfl ((HO.out).alloc _) ⟨(wr).heap.size, 0, none⟩ 1 1 [.string (s1.extract a (b + 1))] rfl rfl ?c1 ?c2 ?c3 ?c4 ?c5 ?_)
                try case c1 => exact cell_one_new _ _ _
                try case c2 => simp [Value.oneCell']
                case c3 => simp only [maxLen]; omega
                case c4 => omega
                case c5 => first | omega | (simp; omega)
                intro v' w2 hown2 hgrow2 _
                have HS3 := Lib.hid (HS.out.trans (((below_alloc1 wr (.cells #[.string (s1.extract a (b + 1))] 9)).mono hBz).grown hgrow2 (by simp; omega) (fun g hg => own_ge HO.out g hg)))
                have HO3 := Lib.hid hown2
                clear hown2 hgrow2 HO HS
                go_wp2
                go_roundw
                case rel => exact ⟨k + 1, by omega, by go_num, (by rw [HT.out, sv_snoc]; exact HO3.out), HS3.out⟩
                case measure => simp [intOf]; omega
              · have hkn : k = l + 1 - t := by omega
                obtain ⟨A', c', rfl, hc1, hc2⟩ := own_form HO.out
                have HL := Lib.hid (gPart_length (a := a) (b := b) hx1 hx2)
                have HK := Lib.hid (show (gPart g t l a b).take k = gPart g t l a b from List.take_of_length_le (by rw [gPart_length hx1 hx2]; omega))
                have HKN := Lib.hid hkn
                clear hr hkn
                go_wp2
                go_ret2
                rw [H.out, HB2.out]
                exact ⟨A', c', by rw [HL.out, ← HKN.out]; rfl, (by rw [HL.out, ← HKN.out]; have := HO.out; rw [HK.out] at this; exact this), HS.out⟩

set_option maxHeartbeats 3200000 in
theorem sGridPart_any (A : Option Addr) (c : Nat) (g : List ByteArray) (top low left right : Int) (w : World) (hr : Rd w w.heap.size A (sv g)) (hm : g.length ≤ maxLen) (hs : ∀ s ∈ g, s.size ≤ maxLen) :
    Calls Try.prog 10 #[.slice A g.length c, .int .i64 top, .int .i64 low, .int .i64 left, .int .i64 right] w (FreshSB (partR g top low left right) (partB g top low left right) w) := by
  have HGi := Lib.hid (sGridIn_any A c g w _ hr hm hs)
  cases hg : gridB g
  · have HB2 := Lib.hid (partB_no (g := g) (top := top) (low := low) (left := left) (right := right) (by rw [hg]; exact fun x => Bool.noConfusion x.1))
    have H := Lib.hid (partR_no HB2.out)
    rw [hg] at HGi
    clear hg hm hs
    go_enter Try.func10, Try.ntmps10
    go_wp2_with fail
    refine HGi.out.mono ?_
    rintro e w1 ⟨rfl, hd⟩
    go_wp2_with fail
    refine (l1None_any _).mono ?_
    rintro e w2 ⟨A2, c2, rfl, ho, hb⟩
    go_wp2
    go_ret2
    rw [H.out, HB2.out]
    exact ⟨A2, c2, rfl, own_mono ho (hd.below 0).size, below_next (hd.below _) hb⟩
  · rw [hg] at HGi
    have HG := Lib.hid hg
    have hlen := grid_len hg
    have hwid := grid_width hg
    have hw0 := width_eq (g := g) (by omega)
    obtain ⟨b0, off, rfl, hb0, hc0⟩ := hr.at_ (sv_get g 0 (by omega))
    rw [Nat.add_zero] at hc0
    have HW := Lib.hid hw0
    have hgl : 0 < g.length := by omega
    have hsz0 : g[0].size ≤ 5 := by omega
    have hsz1 : 1 ≤ g[0].size := by omega
    have HB := Lib.hid (show partB g top low left right = (inB top 0 ((g.length : Int) - 1) && inB low top ((g.length : Int) - 1) && inB left 0 ((g[0].size : Int) - 1) && inB right left ((g[0].size : Int) - 1)) by unfold partB; rw [hg, hw0]; rfl)
    generalize g[0] = s0 at *
    obtain ⟨hl1, hl2⟩ := hlen
    clear hw0 hm hs
    cases h1 : inB top 0 ((g.length : Int) - 1)
    · have HB2 := Lib.hid (show partB g top low left right = false by rw [HB.out, h1]; rfl)
      have H := Lib.hid (partR_no HB2.out)
      have H1 := Lib.hid h1
      clear hg h1 hwid
      go_enter Try.func10, Try.ntmps10
      go_wp2_with fail
      refine HGi.out.mono ?_
      rintro e w0 ⟨rfl, hd⟩
      replace hc0 := (hd.below w.heap.size).cell (p := ⟨b0, off, none⟩) hb0 |>.trans hc0
      go_wp2_with fail
      refine (l6In_b _ _ _ _ H1.out _).mono ?_
      rintro e w1 ⟨rfl, rfl⟩
      go_wp2_with fail
      refine (l1None_any _).mono ?_
      rintro e w2 ⟨A2, c2, rfl, ho, hb⟩
      go_wp2
      go_ret2
      rw [H.out, HB2.out]
      exact ⟨A2, c2, rfl, own_mono ho (hd.below 0).size, below_next (hd.below _) hb⟩
    · have H1 := Lib.hid h1
      cases h2 : inB low top ((g.length : Int) - 1)
      · have HB2 := Lib.hid (show partB g top low left right = false by rw [HB.out, h1, h2]; rfl)
        have H := Lib.hid (partR_no HB2.out)
        have H2 := Lib.hid h2
        clear hg h1 h2 hwid
        go_enter Try.func10, Try.ntmps10
        go_wp2_with fail
        refine HGi.out.mono ?_
        rintro e w0 ⟨rfl, hd⟩
        replace hc0 := (hd.below w.heap.size).cell (p := ⟨b0, off, none⟩) hb0 |>.trans hc0
        go_wp2_with fail
        refine (l6In_b _ _ _ _ H1.out _).mono ?_
        rintro e w1 ⟨rfl, rfl⟩
        go_wp2_with fail
        refine (l6In_b _ _ _ _ H2.out _).mono ?_
        rintro e w1 ⟨rfl, rfl⟩
        go_wp2_with fail
        refine (l1None_any _).mono ?_
        rintro e w2 ⟨A2, c2, rfl, ho, hb⟩
        go_wp2
        go_ret2
        rw [H.out, HB2.out]
        exact ⟨A2, c2, rfl, own_mono ho (hd.below 0).size, below_next (hd.below _) hb⟩
      · have H2 := Lib.hid h2
        cases h3 : inB left 0 ((s0.size : Int) - 1)
        · have HB2 := Lib.hid (show partB g top low left right = false by rw [HB.out, h1, h2, h3]; rfl)
          have H := Lib.hid (partR_no HB2.out)
          have H3 := Lib.hid h3
          clear hg h1 h2 h3 hwid
          go_enter Try.func10, Try.ntmps10
          go_wp2_with fail
          refine HGi.out.mono ?_
          rintro e w0 ⟨rfl, hd⟩
          replace hc0 := (hd.below w.heap.size).cell (p := ⟨b0, off, none⟩) hb0 |>.trans hc0
          go_wp2_with fail
          refine (l6In_b _ _ _ _ H1.out _).mono ?_
          rintro e w1 ⟨rfl, rfl⟩
          go_wp2_with fail
          refine (l6In_b _ _ _ _ H2.out _).mono ?_
          rintro e w1 ⟨rfl, rfl⟩
          go_wp2_with fail
          refine (l6In_b _ _ _ _ H3.out _).mono ?_
          rintro e w1 ⟨rfl, rfl⟩
          go_wp2_with fail
          refine (l1None_any _).mono ?_
          rintro e w2 ⟨A2, c2, rfl, ho, hb⟩
          go_wp2
          go_ret2
          rw [H.out, HB2.out]
          exact ⟨A2, c2, rfl, own_mono ho (hd.below 0).size, below_next (hd.below _) hb⟩
        · have H3 := Lib.hid h3
          cases h4 : inB right left ((s0.size : Int) - 1)
          · have HB2 := Lib.hid (show partB g top low left right = false by rw [HB.out, h1, h2, h3, h4]; rfl)
            have H := Lib.hid (partR_no HB2.out)
            have H4 := Lib.hid h4
            clear hg h1 h2 h3 h4 hwid
            go_enter Try.func10, Try.ntmps10
            go_wp2_with fail
            refine HGi.out.mono ?_
            rintro e w0 ⟨rfl, hd⟩
            replace hc0 := (hd.below w.heap.size).cell (p := ⟨b0, off, none⟩) hb0 |>.trans hc0
            go_wp2_with fail
            refine (l6In_b _ _ _ _ H1.out _).mono ?_
            rintro e w1 ⟨rfl, rfl⟩
            go_wp2_with fail
            refine (l6In_b _ _ _ _ H2.out _).mono ?_
            rintro e w1 ⟨rfl, rfl⟩
            go_wp2_with fail
            refine (l6In_b _ _ _ _ H3.out _).mono ?_
            rintro e w1 ⟨rfl, rfl⟩
            go_wp2_with fail
            refine (l6In_b _ _ _ _ H4.out _).mono ?_
            rintro e w1 ⟨rfl, rfl⟩
            go_wp2_with fail
            refine (l1None_any _).mono ?_
            rintro e w2 ⟨A2, c2, rfl, ho, hb⟩
            go_wp2
            go_ret2
            rw [H.out, HB2.out]
            exact ⟨A2, c2, rfl, own_mono ho (hd.below 0).size, below_next (hd.below _) hb⟩
          · have H4 := Lib.hid h4
            have HB2 := Lib.hid (show partB g top low left right = true by rw [HB.out, h1, h2, h3, h4]; rfl)
            have hq1 := inB_iff.1 h1
            have hq2 := inB_iff.1 h2
            have hq3 := inB_iff.1 h3
            have hq4 := inB_iff.1 h4
            obtain ⟨t, rfl⟩ := Int.eq_ofNat_of_zero_le (show 0 ≤ top by omega)
            obtain ⟨l, rfl⟩ := Int.eq_ofNat_of_zero_le (show 0 ≤ low by omega)
            obtain ⟨a, rfl⟩ := Int.eq_ofNat_of_zero_le (show 0 ≤ left by omega)
            obtain ⟨b, rfl⟩ := Int.eq_ofNat_of_zero_le (show 0 ≤ right by omega)
            have H := Lib.hid (show partR g t l a b = gPart g t l a b by unfold partR; rw [HB2.out]; rfl)
            have hx1 : t ≤ l := by omega
            have hx2 : l < g.length := by omega
            have hx3 : a ≤ b := by omega
            have hx4 : b < s0.size := by omega
            have hdec1 : decide (g.length ≤ l) = false := decide_eq_false (by omega)
            have hdec2 : decide (s0.size ≤ b) = false := decide_eq_false (by omega)
            clear hg h1 h2 h3 h4 hwid
            obtain ⟨i0, hi, hz0, hz1, hz2⟩ := info_parts infoStr
            go_enter Try.func10, Try.ntmps10
            go_wp2_with fail
            refine HGi.out.mono ?_
            rintro e w0 ⟨rfl, hd⟩
            replace hc0 := (hd.below w.heap.size).cell (p := ⟨b0, off, none⟩) hb0 |>.trans hc0
            go_wp2_with fail
            refine (l6In_b _ _ _ _ H1.out _).mono ?_
            rintro e w1 ⟨rfl, rfl⟩
            go_wp2_with fail
            refine (l6In_b _ _ _ _ H2.out _).mono ?_
            rintro e w1 ⟨rfl, rfl⟩
            go_wp2_with fail
            refine (l6In_b _ _ _ _ H3.out _).mono ?_
            rintro e w1 ⟨rfl, rfl⟩
            go_wp2_with fail
            refine (l6In_b _ _ _ _ H4.out _).mono ?_
            rintro e w1 ⟨rfl, rfl⟩
            have hBz0 : w.heap.size ≤ w0.heap.size := (hd.below 0).size
            go_wp2
            go_loopw [12, 13] (fun v i wr => ∃ k : Nat, k ≤ l + 1 - t ∧ i = .int .i64 (t + k : Nat) ∧ Hid (wr.ownsRow w.heap.size 9 1 v k (sv ((gPart g t l a b).take k))) ∧ Hid (Below w.heap.size w wr)) (fun _ i _ => l + 1 - (intOf i).toNat)
            case atStart => exact ⟨0, Nat.zero_le _, rfl, own_mono (own_empty w0 _) hBz0, (hd.below _).trans ((below_alloc1 w0 _).mono hBz0)⟩
            case round =>
              obtain ⟨k, hk, rfl, HO, HS⟩ := hrel
              by_cases hlt : k < l + 1 - t
              · have hidx : t + k < g.length := by omega
                have hc1 := (hr.below HS.out).cell (sv_get g (t + k) hidx)
                have hcast : ((t + k : Nat) : Int) < (g.length : Int) := by omega
                have hsk : g[t + k].size ≤ 5 := grid_small HG.out _ (List.getElem_mem _)
                have hska : b < g[t + k].size := by rw [grid_row HG.out _ hidx, HW.out]; exact hx4
                have HT := Lib.hid (gPart_take (a := a) (b := b) (show t + k ≤ l by omega) hx2)
                generalize g[t + k] = s1 at *
                clear hr
                have hBz : w.heap.size ≤ wr.heap.size := HS.out.size
                go_wp2_with (at_builtin; refine wpList_append_own _ rfl _ _ 23 rfl (w.heap.size) 9 i0 (.string ⟨#[]⟩) 1 16 Try.underlying23 hi hz0 hz1 hz2 rfl (by decide) _ _ _ rfl ((HO.out).alloc _) ⟨(wr).heap.size, 0, none⟩ 1 1 [.string (s1.extract a (b + 1))] rfl rfl ?c1 ?c2 ?c3 ?c4 ?c5 ?_)
                try case c1 => exact cell_one_new _ _ _
                try case c2 => simp [Value.oneCell']
                case c3 => simp only [maxLen]; omega
                case c4 => omega
                case c5 => first | omega | (simp; omega)
                intro v' w2 hown2 hgrow2 _
                have HS3 := Lib.hid (HS.out.trans (((below_alloc1 wr (.cells #[.string (s1.extract a (b + 1))] 9)).mono hBz).grown hgrow2 (by simp; omega) (fun g hg => own_ge HO.out g hg)))
                have HO3 := Lib.hid hown2
                clear hown2 hgrow2 HO HS
                go_wp2
                go_roundw
                case rel => exact ⟨k + 1, by omega, by go_num, (by rw [HT.out, sv_snoc]; exact HO3.out), HS3.out⟩
                case measure => simp [intOf]; omega
              · have hkn : k = l + 1 - t := by omega
                obtain ⟨A', c', rfl, hc1, hc2⟩ := own_form HO.out
                have HL := Lib.hid (gPart_length (a := a) (b := b) hx1 hx2)
                have HK := Lib.hid (show (gPart g t l a b).take k = gPart g t l a b from List.take_of_length_le (by rw [gPart_length hx1 hx2]; omega))
                have HKN := Lib.hid hkn
                clear hr hkn
                go_wp2
                go_ret2
                rw [H.out, HB2.out]
                exact ⟨A', c', by rw [HL.out, ← HKN.out]; rfl, (by rw [HL.out, ← HKN.out]; have := HO.out; rw [HK.out] at this; exact this), HS.out⟩
end Go.Proofs.Ythjllnabjnjpmaa
