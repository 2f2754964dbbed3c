/-
  CONTRACTS: BeamSides, BeamPairs of the program and of the reference; total.
-/
import Derived.Test.YtfiaidphcecnhaaBH
namespace Go.Proofs.Ytfiaidphcecnhaa
open Go.RowKit

theorem own_drew {w : World} {base e size n : Nat} {v : Value} {xs : List Value} (h : w.ownsRow base e size v n xs) : w.drew.ownsRow base e size v n xs := h
def dirsN (F : Fd) (s : St) (K : Nat) : List Nat := (List.range K).map fun j => (F.go s j).d
theorem dirsN_length (F : Fd) (s : St) (K : Nat) : (dirsN F s K).length = K := by simp [dirsN]
theorem dirsN_get (F : Fd) (s : St) (K k : Nat) (hk : k < K) : (dirsN F s K)[k]'(by rw [dirsN_length]; exact hk) = (F.go s k).d := by simp [dirsN]
theorem wayD_ni (F : Fd) (s : St) (K : Nat) : wayD F s K = ni (dirsN F s K) := by
  unfold wayD ni dirsN
  rw [List.map_map]; rfl
theorem dirs_lt {F : Fd} {s : St} (hs : F.Ok s) {N : Nat} (h : ∀ j, j < N → F.exit (F.go s j) = none) : ∀ x ∈ dirsN F s (N + 1), x < 4 := by
  intro x hx
  obtain ⟨k, hk, rfl⟩ := List.mem_map.1 hx
  exact (Fd.go_ok hs h k (by have := List.mem_range.1 hk; omega)).2.2
noncomputable def sidesA (g : List ByteArray) (p : Int) : List Nat := if givenB g p then cnts 4 (dirsN (fld g) ((fld g).enter p.toNat) (lenB (fld g) p.toNat + 1)) else []
theorem sidesA_no {g : List ByteArray} {p : Int} (h : givenB g p = false) : sidesA g p = [] := by unfold sidesA; rw [h]; rfl
theorem sidesA_yes {g : List ByteArray} {p : Nat} (h : givenB g p = true) : sidesA g p = cnts 4 (dirsN (fld g) ((fld g).enter p) (lenB (fld g) p + 1)) := by unfold sidesA; rw [h]; rfl
theorem len_sidesA (g : List ByteArray) (p : Int) : (ni (sidesA g p)).length ≤ 100 := by
  rw [ni_length]
  cases h : givenB g p
  · rw [sidesA_no h]; exact Nat.zero_le _
  · obtain ⟨k, rfl, _⟩ := given_nat h
    rw [sidesA_yes h, cnts_length]; omega
set_option maxHeartbeats 1600000 in
theorem iBeamSides_any (A : Option Addr) (c : Nat) (g : List ByteArray) (p : Int) (w : World) (hr : Rd w w.heap.size A (sv g)) (hm : g.length ≤ maxLen) (hs : ∀ s ∈ g, s.size ≤ maxLen) :
    Calls Try.prog 18 #[.slice A g.length c, .int .i64 p] w (FreshIB (ni (sidesA g p)) (givenB g p) w) := by
  have hP := portOk_any A c g p w _ hr hm hs
  cases hb : givenB g p
  · rw [hb] at hP
    have HP := Lib.hid hP
    have HN := Lib.hid (sidesA_no hb)
    have HO := Lib.hid (nil_own w)
    clear hP hb hr hm hs
    go_enter Try.func18, Try.ntmps18
    go_wp2_with fail
    refine HP.out.mono ?_
    rintro e w' ⟨rfl, rfl⟩
    go_wp2
    go_ret2
    rw [HN.out]
    exact ⟨_, _, rfl, HO.out, below_alloc1 _ _⟩
  · rw [hb] at hP
    obtain ⟨k, rfl, hk, hg⟩ := given_nat hb
    obtain ⟨he, hN⟩ := ends_B hg hk
    have HB := Lib.hid (fun w hr => beam_any A c g k _ _ w hr hg hk he hN)
    have HP := Lib.hid hP
    have HR := Lib.hid hr
    have HS := Lib.hid (sidesA_yes hb)
    have HD := Lib.hid (dirs_lt (Fd.enter_ok (grid_hn hg) (grid_hm hg) (by rw [ports_fld]; exact hk)) he.on)
    clear hP hb hr hm hs he
    obtain ⟨N, hNN⟩ : ∃ N, lenB (fld g) k = N := ⟨_, rfl⟩
    rw [hNN] at HB HS HD hN
    clear hNN
    generalize (fld g).enter k = S0 at *
    generalize endB (fld g) k = q at *
    generalize fld g = F at *
    have hmk := run_make_row' (P := Try.prog) 24 3 (.int .i64 0) 8 Try.underlying24 infoInt rfl .i64 .i64 4 (by omega) (by omega)
    rw [show ((4 : Nat) : Int) = 4 from rfl] at hmk
    go_enter Try.func18, Try.ntmps18
    go_wp2_with fail
    refine HP.out.mono ?_
    rintro e w' ⟨rfl, rfl⟩
    go_wp2_with fail
    refine (HB.out _ (HR.out.later (below_alloc1 w _))).mono ?_
    rintro e w1 ⟨A1, c1, rfl, ho1, hb1⟩
    rw [World.size_alloc] at ho1
    have HO1 := Lib.hid ho1
    have HC1 := Lib.hid ((hb1.block w.heap.size (by simp)).trans (heap_alloc_new w _))
    have HB1 := Lib.hid (below_next (below_alloc1 w _) hb1)
    clear ho1 hb1 hmk HB HR HP
    go_wp2
    go_loopw [25] (fun i wr => ∃ (k : Nat) (cs : Array Value), k ≤ N + 1 ∧ i = .int .i64 k ∧ Hid (wr.heap[w.heap.size]? = some (.cells cs 3 (0, 0))) ∧ Hid (cs.toList = iv (ni (cnts 4 ((dirsN F S0 (N + 1)).take k)))) ∧
        Hid (wr.ownsRow (w.heap.size + 1) 56 2 (.slice A1 (N + 1) c1) (N + 1) (stC F S0 (N + 1))) ∧ Hid (Below w.heap.size w wr)) (fun i _ => N + 1 - (intOf i).toNat)
    case atStart => exact ⟨0, _, Nat.zero_le _, rfl, HC1.out, cnts_nil 4, HO1.out, HB1.out⟩
    case round =>
      obtain ⟨k, cs, hk, rfl, H1, H2, H3, H4⟩ := hrel
      have hcs : cs.size = 4 := by
        have := congrArg List.length H2.out
        rw [Array.length_toList, iv_length, ni_length, cnts_length] at this
        exact this
      by_cases hlt : k < N + 1
      · obtain ⟨g1, g2⟩ := stC_get F S0 hlt
        have hrr := rd_own2 H3.out
        obtain ⟨b, off, hA1, hbb, x0⟩ := hrr.at_ g1
        subst hA1
        have x1 := hrr.cell g2
        rw [← Nat.add_assoc] at x1
        have hlt' : k < (dirsN F S0 (N + 1)).length := by rw [dirsN_length]; exact hlt
        have HT := Lib.hid (List.take_succ_eq_append_getElem hlt')
        have hx := HD.out _ (List.getElem_mem hlt')
        rw [dirsN_get F S0 (N + 1) k hlt] at HT hx
        generalize (F.cellN (F.go S0 k) : Nat) = y at *
        generalize (F.go S0 k).d = x at *
        have hxs : x < cs.size := by omega
        have hcv : cs[x] = .int .i64 (often ((dirsN F S0 (N + 1)).take k) x : Nat) := by
          have h1 : cs.toList[x]? = some cs[x] := by rw [Array.getElem?_toList, Array.getElem?_eq_getElem hxs]
          rw [H2.out, niv_get _ x (by rw [cnts_length]; exact hx), cnts_get 4 _ x hx] at h1
          injection h1 with h1
          exact h1.symm
        have hwl : w.heap.size < wr.heap.size := (Array.getElem?_eq_some_iff.1 H1.out).1
        have hwz : w.heap.size ≤ wr.heap.size := Nat.le_of_lt hwl
        have H1a := Lib.hid ((Below.heap_alloc wr (.cells #[.int .i64 (y : Int), .int .i64 (x : Int)] 56) _ hwl).trans H1.out)
        have hc2 := row_cell H1a.out x hxs
        rw [hcv] at hc2
        have hf2 := row_frozen H1a.out x
        have hle := often_take_le (dirsN F S0 (N + 1)) x k
        have H2' := Lib.hid (show (cs.setIfInBounds x (.int .i64 ((often ((dirsN F S0 (N + 1)).take k) x : Nat) + 1))).toList = iv (ni (cnts 4 ((dirsN F S0 (N + 1)).take (k + 1)))) by
          rw [Array.toList_setIfInBounds, H2.out, cnts_set 4 _ x hx, HT.out])
        clear hcv hrr g1 g2 hlt'
        go_wp2
        go_roundw
        case rel => exact ⟨k + 1, _, by omega, by go_num, (Below.heap_alloc _ _ _ (by simpa using hwl)).trans (row_set H1.out _ _), H2'.out, (own_far H3.out (grown_set (World.grownBy.refl _ _) _ _) (fun j hj => by injection hj with hj; omega)).alloc _, (H4.out.setCell (Nat.le_refl _) _).alloc (by simpa using hwz) _⟩
        case measure => simp [intOf]; omega
      · have HK := Lib.hid (show cnts 4 ((dirsN F S0 (N + 1)).take k) = cnts 4 (dirsN F S0 (N + 1)) by rw [List.take_of_length_le (by rw [dirsN_length]; omega)])
        go_wp2
        go_ret2
        refine ⟨some ⟨w.heap.size, 0, none⟩, 4, ?_, ?_, H4.out⟩
        · rw [HS.out, ni_length, cnts_length]; rfl
        · rw [HS.out, ni_length, cnts_length, ← HK.out, ← H2.out]
          exact own_of_row H1.out (Nat.le_refl _) hcs (by simp only [maxLen]; omega)
set_option maxHeartbeats 1600000 in
theorem sBeamSides_any (A : Option Addr) (c : Nat) (g : List ByteArray) (p : Int) (w : World) (hr : Rd w w.heap.size A (sv g)) (hm : g.length ≤ maxLen) (hs : ∀ s ∈ g, s.size ≤ maxLen) :
    Calls Try.prog 16 #[.slice A g.length c, .int .i64 p] w (FreshIB (ni (sidesA g p)) (givenB g p) w) := by
  have hP := l2Given_any A c g p w _ hr hm hs
  cases hb : givenB g p
  · rw [hb] at hP
    have HP := Lib.hid hP
    have HN := Lib.hid (sidesA_no hb)
    clear hP hb hr hm hs
    go_enter Try.func16, Try.ntmps16
    go_wp2_with fail
    refine HP.out.mono ?_
    rintro e w' ⟨rfl, hd⟩
    have HO := Lib.hid (own_mono (nil_own w') (hd.below 0).size)
    go_wp2
    go_ret2
    rw [HN.out]
    exact ⟨_, _, rfl, HO.out, below_next (hd.below _) (below_alloc1 _ _)⟩
  · rw [hb] at hP
    obtain ⟨k, rfl, hk, hg⟩ := given_nat hb
    obtain ⟨he, hN⟩ := ends_B hg hk
    have HB := Lib.hid (fun w hr => l2Way_any A c g k _ _ w hr hg hk he hN)
    have HP := Lib.hid hP
    have HR := Lib.hid hr
    have HS := Lib.hid (sidesA_yes hb)
    have HD := Lib.hid (dirs_lt (Fd.enter_ok (grid_hn hg) (grid_hm hg) (by rw [ports_fld]; exact hk)) he.on)
    clear hP hb hr hm hs he
    obtain ⟨N, hNN⟩ : ∃ N, lenB (fld g) k = N := ⟨_, rfl⟩
    rw [hNN] at HB HS HD hN
    clear hNN
    generalize (fld g).enter k = S0 at *
    generalize endB (fld g) k = q at *
    generalize fld g = F at *
    have hmk := run_make_row' (P := Try.prog) 24 3 (.int .i64 0) 8 Try.underlying24 infoInt rfl .i64 .i64 4 (by omega) (by omega)
    rw [show ((4 : Nat) : Int) = 4 from rfl] at hmk
    go_enter Try.func16, Try.ntmps16
    go_wp2_with fail
    refine HP.out.mono ?_
    rintro e w0 ⟨rfl, hd⟩
    have hz0 : w.heap.size ≤ w0.heap.size := (hd.below 0).size
    have HR0 := Lib.hid (HR.out.later (hd.below _))
    have HB0 := Lib.hid (hd.below w.heap.size)
    clear hd HR HP
    go_wp2_with fail
    refine (HB.out _ (HR0.out.later (below_alloc1 w0 _))).mono ?_
    rintro e w1 ⟨A1, c1, A2, c2, rfl, ho1, ho2, hb1⟩
    rw [World.size_alloc, wayD_ni] at ho2
    have HO1 := Lib.hid ho2
    have HC1 := Lib.hid ((hb1.block w0.heap.size (by simp)).trans (heap_alloc_new w0 _))
    have HB1 := Lib.hid (below_next HB0.out (below_next (below_alloc1 w0 _) hb1))
    clear ho1 ho2 hb1 hmk HB HR0 HB0
    obtain ⟨dl, hdl⟩ : ∃ dl, dirsN F S0 (N + 1) = dl := ⟨_, rfl⟩
    have hdn : dl.length = N + 1 := by rw [← hdl, dirsN_length]
    rw [hdl] at HO1 HS HD
    clear hdl
    go_wp2
    go_loopw [10] (fun i wr => ∃ (k : Nat) (cs : Array Value), k ≤ N + 1 ∧ i = .int .i64 k ∧ Hid (wr.heap[w0.heap.size]? = some (.cells cs 3 (0, 0))) ∧ Hid (cs.toList = iv (ni (cnts 4 (dl.take k)))) ∧
        Hid (wr.ownsRow (w0.heap.size + 1) 3 1 (.slice A2 (N + 1) c2) (N + 1) (iv (ni dl))) ∧ Hid (Below w.heap.size w wr)) (fun i _ => N + 1 - (intOf i).toNat)
    case atStart => exact ⟨0, _, Nat.zero_le _, rfl, HC1.out, cnts_nil 4, HO1.out, HB1.out⟩
    case round =>
      obtain ⟨k, cs, hk, rfl, H1, H2, H3, H4⟩ := hrel
      have hcs : cs.size = 4 := by
        have := congrArg List.length H2.out
        rw [Array.length_toList, iv_length, ni_length, cnts_length] at this
        exact this
      by_cases hlt : k < N + 1
      · have hlt' : k < dl.length := by omega
        obtain ⟨b, off, hA1, hbb, x0⟩ := (Rd.of_own H3.out).at_ (niv_get dl k hlt')
        subst hA1
        have HT := Lib.hid (List.take_succ_eq_append_getElem hlt')
        have hx := HD.out _ (List.getElem_mem hlt')
        obtain ⟨x, hxx⟩ : ∃ x, dl[k] = x := ⟨_, rfl⟩
        rw [hxx] at HT x0 hx
        clear hxx
        have hxs : x < cs.size := by omega
        have hcv : cs[x] = .int .i64 (often (dl.take k) x : Nat) := by
          have h1 : cs.toList[x]? = some cs[x] := by rw [Array.getElem?_toList, Array.getElem?_eq_getElem hxs]
          rw [H2.out, niv_get _ x (by rw [cnts_length]; exact hx), cnts_get 4 _ x hx] at h1
          injection h1 with h1
          exact h1.symm
        have hc2 := row_cell H1.out x hxs
        rw [hcv] at hc2
        have hf2 := row_frozen H1.out x
        have hle := often_take_le dl x k
        have H2' := Lib.hid (show (cs.setIfInBounds x (.int .i64 ((often (dl.take k) x : Nat) + 1))).toList = iv (ni (cnts 4 (dl.take (k + 1)))) by
          rw [Array.toList_setIfInBounds, H2.out, cnts_set 4 _ x hx, HT.out])
        clear hcv hlt'
        have hxI : (x : Int) < 4 := by omega
        have hxI0 : (0 : Int) ≤ (x : Int) := by omega
        go_wp2_with fail
        go_still_tail 14, (by kernel_rfl)
        change wpList _ _ _ _ _ wr.drew
        go_wp2
        go_roundw
        case rel => exact ⟨k + 1, _, by omega, by go_num, row_set H1.out _ _, H2'.out, own_drew (own_far H3.out (grown_set (World.grownBy.refl _ _) _ _) (fun j hj => by injection hj with hj; omega)), (H4.out.setCell hz0 _).drew⟩
        case measure => simp [intOf]; omega
      · have HK := Lib.hid (show cnts 4 (dl.take k) = cnts 4 dl by rw [List.take_of_length_le (by omega)])
        go_wp2
        go_ret2
        refine ⟨some ⟨w0.heap.size, 0, none⟩, 4, ?_, ?_, H4.out⟩
        · rw [HS.out, ni_length, cnts_length]; rfl
        · rw [HS.out, ni_length, cnts_length, ← HK.out, ← H2.out]
          exact own_of_row H1.out hz0 hcs (by simp only [maxLen]; omega)
/-! ### partners of all ports -/
noncomputable def endsN (g : List ByteArray) (k : Nat) : List Nat := (List.range k).map (endB (fld g))
theorem endsN_length (g : List ByteArray) (k : Nat) : (endsN g k).length = k := by simp [endsN]
theorem endsN_iv (g : List ByteArray) (k : Nat) : iv (ni (endsN g (k + 1))) = iv (ni (endsN g k)) ++ [.int .i64 (endB (fld g) k : Nat)] := by simp [endsN, ni, iv, List.range_succ]
noncomputable def pairsA (g : List ByteArray) : List Nat := if gridB g then endsN g (portsN g) else []
theorem pairsA_no {g : List ByteArray} (h : gridB g = false) : pairsA g = [] := by unfold pairsA; rw [h]; rfl
theorem pairsA_yes {g : List ByteArray} (h : gridB g = true) : pairsA g = endsN g (portsN g) := by unfold pairsA; rw [h]; rfl
theorem len_pairsA (g : List ByteArray) : (ni (pairsA g)).length ≤ 100 := by
  rw [ni_length]
  cases h : gridB g
  · rw [pairsA_no h]; exact Nat.zero_le _
  · rw [pairsA_yes h, endsN_length]
    have := ports_20 h; omega
/-- numbers come back -/
def FreshL (l : List Int) (w : World) (e : Ending) (w' : World) : Prop :=
  ∃ A c, e = .returned (.slice A l.length c) ∧ w'.ownsRow w.heap.size 3 1 (.slice A l.length c) l.length (iv l) ∧ Below w.heap.size w w'
set_option maxHeartbeats 800000 in
theorem pairsOf_any (A : Option Addr) (c : Nat) (g : List ByteArray) (w : World) (hr : Rd w w.heap.size A (sv g)) (hg : gridB g = true) :
    Calls Try.prog 64 #[.slice A g.length c] w (FreshL (ni (endsN g (portsN g))) w) := by
  obtain ⟨j0, hji, hy0, hy1, hy2⟩ := info_parts infoInt
  have HB := Lib.hid (fun k w hr (hk : k < portsN g) => beam_any A c g k _ _ w hr hg hk (ends_B hg hk).1 (ends_B hg hk).2)
  have HP := Lib.hid (portMany_any A c g _ _ (hr.later (below_alloc1 w (.cells #[] 3))) hg)
  have HR := Lib.hid hr
  have hP := ports_20 hg
  have HO1 := Lib.hid (own_empty w 3)
  have HB1 := Lib.hid (below_alloc1 w (.cells #[] 3))
  have HL := Lib.hid (show (ni (endsN g (portsN g))).length = portsN g by rw [ni_length, endsN_length])
  clear hr hg
  go_enter Try.func64, Try.ntmps64
  go_wp2_with fail
  refine HP.out.mono ?_
  rintro e w' ⟨rfl, rfl⟩
  clear HP
  generalize portsN g = P at *
  go_wp2
  go_loopw [3, 10] (fun v i wr => ∃ (k : Nat), k ≤ P ∧ i = .int .i64 k ∧ Hid (wr.ownsRow w.heap.size 3 1 v k (iv (ni (endsN g k)))) ∧ Hid (Below w.heap.size w wr)) (fun _ i _ => P - (intOf i).toNat)
  case atStart => exact ⟨0, Nat.zero_le _, rfl, HO1.out, HB1.out⟩
  case round =>
    obtain ⟨k, hk, rfl, HO, HBB⟩ := hrel
    by_cases hlt : k < P
    · have HBK := Lib.hid (HB.out k wr (HR.out.later HBB.out) hlt)
      have hk1 : k + 1 ≤ maxLen := by simp only [maxLen]; omega
      have hk2 : (k + 1) * 8 ≤ 140737488355328 := by omega
      have HE := Lib.hid (endsN_iv g k)
      generalize endB (fld g) k = q at *
      go_wp2_with fail
      refine HBK.out.mono ?_
      rintro e w1 ⟨A1, c1, rfl, ho1, hb1⟩
      have HO1' := Lib.hid (own_keep HO.out hb1)
      have HBB1 := Lib.hid (below_next HBB.out hb1)
      have hwz : w.heap.size ≤ w1.heap.size := HBB1.out.size
      clear ho1 hb1 HO HBB HBK
      go_wp2_with (at_builtin; refine wpList_append_own _ rfl _ _ 24 rfl w.heap.size 3 j0 (.int .i64 0) 1 8 Try.underlying24 hji hy0 hy1 hy2 rfl (by decide) _ _ _ rfl (HO1'.out.alloc _) ⟨w1.heap.size, 0, none⟩ 1 1 [_] rfl rfl (cell_one_new _ _ _) (int_one _ _) hk1 hk2 (alloc_le hwz _) ?_)
      intro v' w2 hown2 hgrow2 _
      have HC2 := Lib.hid (show w2.ownsRow w.heap.size 3 1 v' (k + 1) (iv (ni (endsN g (k + 1)))) by rw [HE.out]; exact hown2)
      have HB2 := Lib.hid (below_grown (HBB1.out.alloc hwz _) hgrow2 (fun g hg => own_ge HO1'.out g hg))
      clear hown2 hgrow2 HO1' HBB1
      go_wp2
      go_roundw
      case rel => exact ⟨k + 1, by omega, by go_num, HC2.out, HB2.out⟩
      case measure => simp [intOf]; omega
    · have HKK := Lib.hid (show k = P by omega)
      obtain ⟨A', c', rfl, _, _⟩ := own_form HO.out
      go_wp2
      go_ret
      exact ⟨A', c', by rw [HL.out, ← HKK.out]; rfl, by rw [HL.out, ← HKK.out]; exact HO.out, HBB.out⟩
theorem iBeamPairs_any (A : Option Addr) (c : Nat) (g : List ByteArray) (w : World) (hr : Rd w w.heap.size A (sv g)) (hm : g.length ≤ maxLen) (hs : ∀ s ∈ g, s.size ≤ maxLen) :
    Calls Try.prog 29 #[.slice A g.length c] w (FreshIB (ni (pairsA g)) (gridB g) w) := by
  have hG := iGridIn_any A c g w _ hr hm hs
  cases hb : gridB g
  · rw [hb] at hG
    have HG := Lib.hid hG
    have HN := Lib.hid (pairsA_no hb)
    have HO := Lib.hid (nil_own w)
    clear hG hb hr hm hs
    go_enter Try.func29, Try.ntmps29
    go_wp2_with fail
    refine HG.out.mono ?_
    rintro e w' ⟨rfl, rfl⟩
    go_wp2
    go_ret2
    rw [HN.out]
    exact ⟨_, _, rfl, HO.out, below_alloc1 _ _⟩
  · rw [hb] at hG
    have HG := Lib.hid hG
    have HN := Lib.hid (pairsA_yes hb)
    have HP := Lib.hid (pairsOf_any A c g w hr hb)
    clear hG hb hr hm hs
    go_enter Try.func29, Try.ntmps29
    go_wp2_with fail
    refine HG.out.mono ?_
    rintro e w' ⟨rfl, rfl⟩
    go_wp2_with fail
    refine HP.out.mono ?_
    rintro e w1 ⟨A1, c1, rfl, ho1, hb1⟩
    have HO := Lib.hid ho1
    clear ho1
    go_wp2
    go_ret2
    rw [HN.out]
    exact ⟨A1, c1, rfl, HO.out, hb1⟩
set_option maxHeartbeats 1600000 in
theorem l2Pairs_any (A : Option Addr) (c : Nat) (g : List ByteArray) (w : World) (hr : Rd w w.heap.size A (sv g)) (hg : gridB g = true) :
    Calls Try.prog 63 #[.slice A g.length c] w (FreshL (ni (endsN g (portsN g))) w) := by
  obtain ⟨j0, hji, hy0, hy1, hy2⟩ := info_parts infoInt
  have HB := Lib.hid (fun k w hr (hk : k < portsN g) => l2Way_any A c g k _ _ w hr hg hk (ends_B hg hk).1 (ends_B hg hk).2)
  have HR := Lib.hid hr
  have hP := ports_20 hg
  have HO1 := Lib.hid (own_empty w 3)
  have HB1 := Lib.hid (below_alloc1 w (.cells #[] 3))
  have HL := Lib.hid (show (ni (endsN g (portsN g))).length = portsN g by rw [ni_length, endsN_length])
  obtain ⟨gl1, gl2⟩ := grid_len hg
  obtain ⟨gw1, gw2⟩ := grid_width hg
  obtain ⟨b, off, rfl, hbb, _⟩ := hr.at_ (sv_get g 0 (by omega))
  obtain ⟨s0, hc0, hz0⟩ : ∃ s0 : ByteArray, w.cell? ⟨b, off, none⟩ = some (.string s0) ∧ s0.size = width g := ⟨g[0], by have := hr.cell (sv_get g 0 (by omega)); rw [Nat.add_zero] at this; exact this, grid_row hg 0 (by omega)⟩
  have hz5 : s0.size ≤ 5 := by omega
  have hpos : 0 < g.length := by omega
  have HPP := Lib.hid (show 2 * ((g.length : Int) + (s0.size : Int)) = (portsN g : Nat) by unfold portsN; omega)
  have HC := Lib.hid hc0
  clear hr hg hc0 hz0 gw1 gw2
  go_enter Try.func63, Try.ntmps63
  generalize portsN g = P at *
  go_wp2
  go_loopw [3, 4] (fun v i wr => ∃ (k : Nat), k ≤ P ∧ i = .int .i64 k ∧ Hid (wr.ownsRow w.heap.size 3 1 v k (iv (ni (endsN g k)))) ∧ Hid (Below w.heap.size w wr)) (fun _ i _ => P - (intOf i).toNat)
  case atStart => exact ⟨0, Nat.zero_le _, rfl, HO1.out, HB1.out⟩
  case round =>
    obtain ⟨k, hk, rfl, HO, HBB⟩ := hrel
    have hc1 : wr.cell? ⟨b, off, none⟩ = some (.string s0) := by rw [HBB.out.cell hbb]; exact HC.out
    have hps := HPP.out
    by_cases hlt : k < P
    · have HBK := Lib.hid (HB.out k wr (HR.out.later HBB.out) hlt)
      have hk1 : k + 1 ≤ maxLen := by simp only [maxLen]; omega
      have hk2 : (k + 1) * 8 ≤ 140737488355328 := by omega
      have HE := Lib.hid (endsN_iv g k)
      generalize endB (fld g) k = q at *
      have hlti : (k : Int) < 2 * ((g.length : Int) + (s0.size : Int)) := by omega
      clear hps
      go_wp2_with fail
      refine (l2Ports_any g.length s0.size gl2 hz5 _).mono ?_
      rintro e w' ⟨rfl, rfl⟩
      go_wp2_with fail
      refine HBK.out.mono ?_
      rintro e w1 ⟨A1, c1, A2, c2, rfl, ho1, ho2, hb1⟩
      have HO1' := Lib.hid (own_keep HO.out hb1)
      have HBB1 := Lib.hid (below_next HBB.out hb1)
      have hwz : w.heap.size ≤ w1.heap.size := HBB1.out.size
      clear ho1 ho2 hb1 HO HBB HBK hc1
      go_wp2_with (at_builtin; refine wpList_append_own _ rfl _ _ 24 rfl w.heap.size 3 j0 (.int .i64 0) 1 8 Try.underlying24 hji hy0 hy1 hy2 rfl (by decide) _ _ _ rfl (HO1'.out.alloc _) ⟨w1.heap.size, 0, none⟩ 1 1 [_] rfl rfl (cell_one_new _ _ _) (int_one _ _) hk1 hk2 (alloc_le hwz _) ?_)
      intro v' w2 hown2 hgrow2 _
      have HC2 := Lib.hid (show w2.ownsRow w.heap.size 3 1 v' (k + 1) (iv (ni (endsN g (k + 1)))) by rw [HE.out]; exact hown2)
      have HB2 := Lib.hid (below_grown (HBB1.out.alloc hwz _) hgrow2 (fun g hg => own_ge HO1'.out g hg))
      clear hown2 hgrow2 HO1' HBB1
      go_wp2
      go_roundw
      case rel => exact ⟨k + 1, by omega, by go_num, HC2.out, HB2.out⟩
      case measure => simp [intOf]; omega
    · have HKK := Lib.hid (show k = P by omega)
      have hlti : ¬ ((k : Int) < 2 * ((g.length : Int) + (s0.size : Int))) := by omega
      clear hps
      obtain ⟨A', c', rfl, _, _⟩ := own_form HO.out
      go_wp2_with fail
      refine (l2Ports_any g.length s0.size gl2 hz5 _).mono ?_
      rintro e w' ⟨rfl, rfl⟩
      go_wp2
      go_ret
      exact ⟨A', c', by rw [HL.out, ← HKK.out]; rfl, by rw [HL.out, ← HKK.out]; exact HO.out, HBB.out⟩
theorem sBeamPairs_any (A : Option Addr) (c : Nat) (g : List ByteArray) (w : World) (hr : Rd w w.heap.size A (sv g)) (hm : g.length ≤ maxLen) (hs : ∀ s ∈ g, s.size ≤ maxLen) :
    Calls Try.prog 28 #[.slice A g.length c] w (FreshIB (ni (pairsA g)) (gridB g) w) := by
  have hG := sGridIn_any A c g w _ hr hm hs
  cases hb : gridB g
  · rw [hb] at hG
    have HG := Lib.hid hG
    have HN := Lib.hid (pairsA_no hb)
    clear hG hb hr hm hs
    go_enter Try.func28, Try.ntmps28
    go_wp2_with fail
    refine HG.out.mono ?_
    rintro e w' ⟨rfl, hd⟩
    have HO := Lib.hid (own_mono (nil_own w') (hd.below 0).size)
    go_wp2
    go_ret2
    rw [HN.out]
    exact ⟨_, _, rfl, HO.out, below_next (hd.below _) (below_alloc1 _ _)⟩
  · rw [hb] at hG
    have HG := Lib.hid hG
    have HN := Lib.hid (pairsA_yes hb)
    have HP := Lib.hid (fun w hr => l2Pairs_any A c g w hr hb)
    clear hG hb hm hs
    go_enter Try.func28, Try.ntmps28
    go_wp2_with fail
    refine HG.out.mono ?_
    rintro e w0 ⟨rfl, hd⟩
    have hr' := hr.later (hd.below _)
    clear hr
    go_wp2_with fail
    refine (HP.out _ hr').mono ?_
    rintro e w1 ⟨A1, c1, rfl, ho1, hb1⟩
    have HO := Lib.hid (own_mono ho1 (hd.below 0).size)
    clear ho1
    go_wp2
    go_ret2
    rw [HN.out]
    exact ⟨A1, c1, rfl, HO.out, below_next (hd.below _) hb1⟩
theorem sum_take_le (l : List Nat) (k : Nat) : (l.take k).sum ≤ l.sum := by
  have h := List.sum_append (l₁ := l.take k) (l₂ := l.drop k)
  rw [List.take_append_drop] at h
  omega
theorem sum_take_succ (l : List Nat) (k : Nat) (hk : k < l.length) : (l.take (k + 1)).sum = (l.take k).sum + l[k] := by
  rw [List.take_succ_eq_append_getElem hk, List.sum_append]; simp
theorem total_any (A : Option Addr) (c : Nat) (l : List Nat) (w : World) (B : Nat) (hr : Rd w B A (iv (ni l))) (hl : l.length ≤ 1000000) (hsum : l.sum ≤ 1000000) :
    Calls Try.prog 33 #[.slice A l.length c] w fun e w' => e = .returned (.int .i64 (l.sum : Nat)) ∧ w = w' := by
  have HR := Lib.hid hr
  clear hr
  go_enter Try.func33, Try.ntmps33
  go_wp2
  go_loop [3, 4] (fun t i => ∃ (k : Nat), k ≤ l.length ∧ i = .int .i64 k ∧ t = .int .i64 ((l.take k).sum : Nat)) (fun _ i => l.length - (intOf i).toNat)
  case atStart => exact ⟨0, Nat.zero_le _, rfl, rfl⟩
  case round =>
    obtain ⟨k, hk, rfl, rfl⟩ := hrel
    have hle := sum_take_le l k
    by_cases hlt : k < l.length
    · obtain ⟨b, off, rfl, hbb, x0⟩ := HR.out.at_ (niv_get l k hlt)
      have HT := Lib.hid (sum_take_succ l k hlt)
      have hle2 := sum_take_le l (k + 1)
      rw [HT.out] at hle2
      obtain ⟨y, hy⟩ : ∃ y, l[k] = y := ⟨_, rfl⟩
      rw [hy] at HT x0 hle2
      clear hy HR
      go_wp2
      go_round
      case rel => exact ⟨k + 1, by omega, by go_num, by rw [HT.out]; go_num⟩
      case measure => simp [intOf]; omega
    · have HK := Lib.hid (show (l.take k).sum = l.sum by rw [List.take_of_length_le (by omega)])
      go_wp2
      go_ret
      exact ⟨by rw [← HK.out]; rfl, rfl⟩
end Go.Proofs.Ytfiaidphcecnhaa
