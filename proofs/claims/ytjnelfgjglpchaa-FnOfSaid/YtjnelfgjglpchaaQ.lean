/-
  CONTRACTS: GridUnder of the program and of the reference.
-/
import Derived.Test.YtjnelfgjglpchaaO
namespace Go.Proofs.Ytjnelfgjglpchaa
open Go.RowKit

theorem addr_add (b off i : Nat) : (⟨b, off, none⟩ : Addr).add i = ⟨b, off + i, none⟩ := by
  unfold Addr.add; split
  · subst_vars; rfl
  · rfl
theorem news_of_rd {w : World} {B b off : Nat} {xs : List Value} (h : Rd w B (some ⟨b, off, none⟩) xs) : ∀ j u, xs[j]? = some u → w.cell? ((⟨b, off, none⟩ : Addr).add j) = some u := fun j u hu => by
  rw [addr_add]; exact h.cell hu
theorem sv_one (g : List ByteArray) : ∀ u ∈ sv g, u.oneCell' = true := by
  intro u hu
  obtain ⟨s, _, rfl⟩ := List.mem_map.1 hu
  rfl
theorem sv_append (g h : List ByteArray) : sv (g ++ h) = sv g ++ sv h := by simp [sv]
def underB (g h : List ByteArray) : Bool := gridB g && gridB h && gridB (g ++ h)
theorem underB_g {g h : List ByteArray} (e : gridB g = false) : underB g h = false := by unfold underB; rw [e]; rfl
theorem underB_h {g h : List ByteArray} (e : gridB h = false) : underB g h = false := by unfold underB; rw [e, Bool.and_false]; rfl
theorem underB_all {g h : List ByteArray} (e1 : gridB g = true) (e2 : gridB h = true) : underB g h = gridB (g ++ h) := by unfold underB; rw [e1, e2]; rfl
theorem width_append {g h : List ByteArray} (hg : 0 < g.length) : width (g ++ h) = width g := by
  unfold width
  rw [List.getD_eq_getElem?_getD, List.getD_eq_getElem?_getD, List.getElem?_append_left hg]
theorem under_wide {g h : List ByteArray} (e1 : gridB g = true) (e2 : gridB h = true) (hne : width g ≠ width h) : gridB (g ++ h) = false := by
  have h1 := grid_len e1
  have h2 := grid_len e2
  refine gridB_row (k := g.length) (by rw [List.length_append]; omega) ?_
  rw [List.getElem_append_right (Nat.le_refl _), width_append (by omega)]
  refine rowB_size ?_
  rw [grid_row e2]
  exact fun e => hne e.symm
theorem app_maxLen {g h : List ByteArray} (hs : ∀ s ∈ g, s.size ≤ maxLen) (hs2 : ∀ s ∈ h, s.size ≤ maxLen) : ∀ s ∈ g ++ h, s.size ≤ maxLen := fun s hx => by
  rcases List.mem_append.1 hx with h | h
  · exact hs s h
  · exact hs2 s h

set_option maxHeartbeats 1600000 in
theorem iGridUnder_any (A B : Option Addr) (c d : Nat) (g h : List ByteArray) (w : World) (hr : Rd w w.heap.size A (sv g)) (hr2 : Rd w w.heap.size B (sv h)) (hm : g.length ≤ maxLen) (hs : ∀ s ∈ g, s.size ≤ maxLen) (hm2 : h.length ≤ maxLen) (hs2 : ∀ s ∈ h, s.size ≤ maxLen) :
    Calls Try.prog 47 #[.slice A g.length c, .slice B h.length d] w (FreshSB (orNone2 (underB g h) (g ++ h)) (underB g h) w) := by
  have HGi := Lib.hid (iGridIn_any A c g w _ hr hm hs)
  have HHi := Lib.hid (iGridIn_any B d h w _ hr2 hm2 hs2)
  have HSM := Lib.hid (app_maxLen hs hs2)
  cases hg : gridB g
  · have HB2 := Lib.hid (underB_g (h := h) hg)
    have H := Lib.hid (show orNone2 (underB g h) (g ++ h) = [] by rw [HB2.out]; rfl)
    rw [hg] at HGi
    clear hg hm hs hm2 hs2
    go_enter Try.func47, Try.ntmps47
    go_wp2_with fail
    refine HGi.out.mono ?_
    rintro e w1 ⟨rfl, rfl⟩
    go_wp2
    go_ret2
    rw [H.out, HB2.out]
    exact fresh_nil (Below.refl _ _) rfl
  · cases hh : gridB h
    · have HB2 := Lib.hid (underB_h (g := g) hh)
      have H := Lib.hid (show orNone2 (underB g h) (g ++ h) = [] by rw [HB2.out]; rfl)
      rw [hg] at HGi
      rw [hh] at HHi
      clear hg hh hm hs hm2 hs2
      go_enter Try.func47, Try.ntmps47
      go_wp2_with fail
      refine HGi.out.mono ?_
      rintro e w0 ⟨rfl, rfl⟩
      go_wp2_with fail
      refine HHi.out.mono ?_
      rintro e w1 ⟨rfl, rfl⟩
      go_wp2
      go_ret2
      rw [H.out, HB2.out]
      exact fresh_nil (Below.refl _ _) rfl
    · rw [hg] at HGi
      rw [hh] at HHi
      have HB2 := Lib.hid (underB_all hg hh)
      obtain ⟨i0, hi, hz0, hz1, hz2⟩ := info_parts infoStr
      have hlen := grid_len hg
      have hlen2 := grid_len hh
      obtain ⟨b1, off1, rfl, hb1, hx1⟩ := hr.at_ (sv_get g 0 (by omega))
      obtain ⟨b2, off2, rfl, hb2, hx2⟩ := hr2.at_ (sv_get h 0 (by omega))
      obtain ⟨hl1, hl2⟩ := hlen
      obtain ⟨hl3, hl4⟩ := hlen2
      clear hx1 hx2 hg hh hm hs hm2 hs2
      go_enter Try.func47, Try.ntmps47
      go_wp2_with fail
      refine HGi.out.mono ?_
      rintro e w0 ⟨rfl, rfl⟩
      go_wp2_with fail
      refine HHi.out.mono ?_
      rintro e w1 ⟨rfl, rfl⟩
      go_wp2_with (at_builtin; refine wpList_append_own _ rfl _ _ 22 rfl (w).heap.size 9 i0 (.string ⟨#[]⟩) 1 16 Try.underlying22 hi hz0 hz1 hz2 rfl (by decide) _ _ _ rfl (own_empty (w) 9) ⟨b1, off1, none⟩ g.length c (sv g) rfl (by rw [sv_length, Nat.mul_one]) (news_of_rd ((hr).below (below_alloc1 (w) _))) (sv_one g) ?c3 ?c4 ?c5 ?_)
      case c3 => simp only [maxLen]; omega
      case c4 => omega
      case c5 => first | omega | (simp; omega) | simp
      intro v1 w2 hown1 hgrow1 _
      have HS2 := Lib.hid (below_grown (below_alloc1 (w) (.cells #[] 9)) hgrow1 (fun g hg => own_ge (own_empty (w) 9) g hg))
      have HO2 := Lib.hid hown1
      have hrr2 := (hr2).below HS2.out
      clear hown1 hgrow1
      go_wp2_with (at_builtin; refine wpList_append_own _ rfl _ _ 22 rfl (w).heap.size 9 i0 (.string ⟨#[]⟩) 1 16 Try.underlying22 hi hz0 hz1 hz2 rfl (by decide) _ _ _ rfl HO2.out ⟨b2, off2, none⟩ h.length d (sv h) rfl (by rw [sv_length, Nat.mul_one]) (news_of_rd hrr2) (sv_one h) ?c3 ?c4 ?c5 ?_)
      case c3 => simp only [maxLen]; omega
      case c4 => omega
      case c5 => first | omega | exact HS2.out.size
      intro v2 w3 hown2 hgrow2 _
      have HS3 := Lib.hid (below_grown HS2.out hgrow2 (fun g hg => own_ge HO2.out g hg))
      have HO3 := Lib.hid (show w3.ownsRow (w).heap.size 9 1 v2 (g.length + h.length) (sv (g ++ h)) by rw [sv_append]; simpa using hown2)
      have HLA := Lib.hid (show (g ++ h).length = g.length + h.length from List.length_append)
      clear hown2 hgrow2 HO2 HS2 hrr2
      obtain ⟨A', c', rfl, hc1, hc2⟩ := own_form HO3.out
      have hIn := iGridIn_any A' c' (g ++ h) w3 w3.heap.size (Rd.of_own HO3.out) (by rw [HLA.out]; simp only [maxLen]; omega) HSM.out
      rw [HLA.out] at hIn
      cases hb : gridB (g ++ h)
      · rw [hb] at hIn HB2
        have HIN := Lib.hid hIn
        have H := Lib.hid (show orNone2 (underB g h) (g ++ h) = [] by rw [HB2.out]; rfl)
        clear hIn hb
        go_wp2_with fail
        refine HIN.out.mono ?_
        rintro e w4 ⟨rfl, rfl⟩
        go_wp2
        go_ret2
        rw [H.out, HB2.out]
        exact fresh_nil HS3.out rfl
      · rw [hb] at hIn HB2
        have HIN := Lib.hid hIn
        have H := Lib.hid (show orNone2 (underB g h) (g ++ h) = g ++ h by rw [HB2.out]; rfl)
        clear hIn hb
        go_wp2_with fail
        refine HIN.out.mono ?_
        rintro e w4 ⟨rfl, rfl⟩
        go_wp2
        go_ret2
        rw [H.out, HB2.out]
        exact ⟨A', c', by rw [HLA.out]; rfl, by rw [HLA.out]; exact HO3.out, HS3.out⟩
set_option maxHeartbeats 1600000 in
theorem sGridUnder_any (A B : Option Addr) (c d : Nat) (g h : List ByteArray) (w : World) (hr : Rd w w.heap.size A (sv g)) (hr2 : Rd w w.heap.size B (sv h)) (hm : g.length ≤ maxLen) (hs : ∀ s ∈ g, s.size ≤ maxLen) (hm2 : h.length ≤ maxLen) (hs2 : ∀ s ∈ h, s.size ≤ maxLen) :
    Calls Try.prog 48 #[.slice A g.length c, .slice B h.length d] w (FreshSB (orNone2 (underB g h) (g ++ h)) (underB g h) w) := by
  have HGd := Lib.hid (fun n => sGridIn_any A c g (w.drewN n) _ (hr.below (below_drewN w n _)) hm hs)
  have HHd := Lib.hid (fun n => sGridIn_any B d h (w.drewN n) _ (hr2.below (below_drewN w n _)) hm2 hs2)
  have HSM := Lib.hid (app_maxLen hs hs2)
  cases hg : gridB g
  · have HB2 := Lib.hid (underB_g (h := h) hg)
    have H := Lib.hid (show orNone2 (underB g h) (g ++ h) = [] by rw [HB2.out]; rfl)
    rw [hg] at HGd
    clear hg hm hs hm2 hs2
    go_enter Try.func48, Try.ntmps48
    go_wp2_with fail
    go_quiet ((go_at_call 26; first | (with_reducible exact qdr (HGd.out _)) | (with_reducible exact qdr (HHd.out _))))
    have hd : Dr w (w.drewN nq) := ⟨nq, rfl⟩
    generalize w.drewN nq = w1 at *
    go_wp2_with fail
    refine (l1None_any _).mono ?_
    rintro e w2 ⟨A2, c2, rfl, ho, hb⟩
    go_wp2
    go_ret2
    rw [H.out, HB2.out]
    exact ⟨A2, c2, rfl, own_mono ho (hd.below 0).size, below_next (hd.below _) hb⟩
  · cases hh : gridB h
    · have HB2 := Lib.hid (underB_h (g := g) hh)
      have H := Lib.hid (show orNone2 (underB g h) (g ++ h) = [] by rw [HB2.out]; rfl)
      rw [hg] at HGd
      rw [hh] at HHd
      clear hg hh hm hs hm2 hs2
      go_enter Try.func48, Try.ntmps48
      go_wp2_with fail
      go_quiet ((go_at_call 26; first | (with_reducible exact qdr (HGd.out _)) | (with_reducible exact qdr (HHd.out _))))
      have hd : Dr w (w.drewN nq) := ⟨nq, rfl⟩
      generalize w.drewN nq = w1 at *
      go_wp2_with fail
      refine (l1None_any _).mono ?_
      rintro e w2 ⟨A2, c2, rfl, ho, hb⟩
      go_wp2
      go_ret2
      rw [H.out, HB2.out]
      exact ⟨A2, c2, rfl, own_mono ho (hd.below 0).size, below_next (hd.below _) hb⟩
    · rw [hg] at HGd
      rw [hh] at HHd
      have HGG := Lib.hid hg
      have HHH := Lib.hid hh
      obtain ⟨i0, hi, hz0, hz1, hz2⟩ := info_parts infoStr
      have hlen := grid_len hg
      have hlen2 := grid_len hh
      have hwg := width_eq (g := g) (by omega)
      have hwh := width_eq (g := h) (by omega)
      obtain ⟨b1, off1, rfl, hb1, hx1⟩ := hr.at_ (sv_get g 0 (by omega))
      obtain ⟨b2, off2, rfl, hb2, hx2⟩ := hr2.at_ (sv_get h 0 (by omega))
      rw [Nat.add_zero] at hx1 hx2
      have hsg := grid_small hg _ (List.getElem_mem (show 0 < g.length by omega))
      have hsh := grid_small hh _ (List.getElem_mem (show 0 < h.length by omega))
      have hp1 : 0 < g.length := by omega
      have hp2 : 0 < h.length := by omega
      generalize g[0] = s1 at *
      generalize h[0] = s2 at *
      obtain ⟨hl1, hl2⟩ := hlen
      obtain ⟨hl3, hl4⟩ := hlen2
      have HWG := Lib.hid hwg
      have HWH := Lib.hid hwh
      by_cases hl : s1.size = s2.size
      · have HB2 := Lib.hid (underB_all hg hh)
        have hne : ((s1.size : Int) != (s2.size : Int)) = false := by rw [hl]; simp
        clear hg hh hm hs hm2 hs2 hl hwg hwh
        go_enter Try.func48, Try.ntmps48
        go_wp2_with fail
        go_quiet ((go_at_call 26; first | (with_reducible exact qdr (HGd.out _)) | (with_reducible exact qdr (HHd.out _))))
        have hd : Dr w (w.drewN nq) := ⟨nq, rfl⟩
        generalize w.drewN nq = w1 at *
        replace hx1 := (hd.below w.heap.size).cell (p := ⟨b1, off1, none⟩) hb1 |>.trans hx1
        replace hx2 := (hd.below w.heap.size).cell (p := ⟨b2, off2, none⟩) hb2 |>.trans hx2
        have hra := hr.later (hd.below _)
        have hrb := hr2.later (hd.below _)
        have HD := Lib.hid hd
        clear hd hr hr2
        go_wp2_with (at_builtin; refine wpList_append_own _ rfl _ _ 22 rfl (w1).heap.size 9 i0 (.string ⟨#[]⟩) 1 16 Try.underlying22 hi hz0 hz1 hz2 rfl (by decide) _ _ _ rfl (own_empty (w1) 9) ⟨b1, off1, none⟩ g.length c (sv g) rfl (by rw [sv_length, Nat.mul_one]) (news_of_rd ((hra).below (below_alloc1 (w1) _))) (sv_one g) ?c3 ?c4 ?c5 ?_)
        case c3 => simp only [maxLen]; omega
        case c4 => omega
        case c5 => first | omega | (simp; omega) | simp
        intro v1 w2 hown1 hgrow1 _
        have HS2 := Lib.hid (below_grown (below_alloc1 (w1) (.cells #[] 9)) hgrow1 (fun g hg => own_ge (own_empty (w1) 9) g hg))
        have HO2 := Lib.hid hown1
        have hrr2 := (hrb).below HS2.out
        clear hown1 hgrow1
        go_wp2_with (at_builtin; refine wpList_append_own _ rfl _ _ 22 rfl (w1).heap.size 9 i0 (.string ⟨#[]⟩) 1 16 Try.underlying22 hi hz0 hz1 hz2 rfl (by decide) _ _ _ rfl HO2.out ⟨b2, off2, none⟩ h.length d (sv h) rfl (by rw [sv_length, Nat.mul_one]) (news_of_rd hrr2) (sv_one h) ?c3 ?c4 ?c5 ?_)
        case c3 => simp only [maxLen]; omega
        case c4 => omega
        case c5 => first | omega | exact HS2.out.size
        intro v2 w3 hown2 hgrow2 _
        have HS3 := Lib.hid (below_grown HS2.out hgrow2 (fun g hg => own_ge HO2.out g hg))
        have HO3 := Lib.hid (show w3.ownsRow (w1).heap.size 9 1 v2 (g.length + h.length) (sv (g ++ h)) by rw [sv_append]; simpa using hown2)
        have HLA := Lib.hid (show (g ++ h).length = g.length + h.length from List.length_append)
        clear hown2 hgrow2 HO2 HS2 hrr2
        obtain ⟨A', c', rfl, hc1, hc2⟩ := own_form HO3.out
        have hIn := l1Done_any A' c' w1.heap.size (g ++ h) w3 (by rw [HLA.out]; exact HO3.out) HS3.out.size (by rw [HLA.out]; simp only [maxLen]; omega) HSM.out
        rw [HLA.out] at hIn
        have HIN := Lib.hid hIn
        clear hIn
        go_wp2_with fail
        refine HIN.out.mono ?_
        rintro e w4 ⟨A4, c4, rfl, ho4, hb4⟩
        go_wp2
        go_ret2
        rw [HB2.out]
        exact ⟨A4, c4, rfl, own_mono ho4 (HD.out.below 0).size, below_next (below_next (HD.out.below _) HS3.out) hb4⟩
      · have HB2 := Lib.hid (show underB g h = false by rw [underB_all hg hh]; exact under_wide hg hh (by rw [hwg, hwh]; exact hl))
        have H := Lib.hid (show orNone2 (underB g h) (g ++ h) = [] by rw [HB2.out]; rfl)
        have hne : ((s1.size : Int) != (s2.size : Int)) = true := by rw [bne_iff_ne]; omega
        clear hg hh hm hs hm2 hs2 hl hwg hwh
        go_enter Try.func48, Try.ntmps48
        go_wp2_with fail
        go_quiet ((go_at_call 26; first | (with_reducible exact qdr (HGd.out _)) | (with_reducible exact qdr (HHd.out _))))
        have hd : Dr w (w.drewN nq) := ⟨nq, rfl⟩
        generalize w.drewN nq = w1 at *
        replace hx1 := (hd.below w.heap.size).cell (p := ⟨b1, off1, none⟩) hb1 |>.trans hx1
        replace hx2 := (hd.below w.heap.size).cell (p := ⟨b2, off2, none⟩) hb2 |>.trans hx2
        go_wp2_with fail
        refine (l1None_any _).mono ?_
        rintro e w2 ⟨A2, c2, rfl, ho, hb⟩
        go_wp2
        go_ret2
        rw [H.out, HB2.out]
        exact ⟨A2, c2, rfl, own_mono ho (hd.below 0).size, below_next (hd.below _) hb⟩
theorem len_gridunder (g h : List ByteArray) : (orNone2 (underB g h) (g ++ h)).length ≤ 100 := by
  cases hb : underB g h
  · exact Nat.zero_le _
  · unfold underB at hb
    have h1 := grid_len (Bool.and_eq_true_iff.1 hb).2
    show (g ++ h).length ≤ 100
    omega
end Go.Proofs.Ytjnelfgjglpchaa
