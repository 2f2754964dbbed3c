/-
  CONTRACTS: l2Often, timesIn, BeamTwice of the program and of the reference.
-/
import Derived.Test.YtfiaidphcecnhaaBG
namespace Go.Proofs.Ytfiaidphcecnhaa
open Go.RowKit

theorem int_beq_no {a b : Nat} (h : a ≠ b) : ((a : Int) == (b : Int)) = false := beq_eq_false_iff_ne.2 (by omega)
theorem int_beq_yes {a b : Nat} (h : a = b) : ((a : Int) == (b : Int)) = true := by rw [h]; exact beq_self_eq_true _
theorem often_take (l : List Nat) (x k : Nat) (hk : k < l.length) : often (l.take (k + 1)) x = often (l.take k) x + if l[k] = x then 1 else 0 := by
  rw [List.take_succ_eq_append_getElem hk, often_snoc]
theorem often_take_le (l : List Nat) (x k : Nat) : often (l.take k) x ≤ k := Nat.le_trans (often_le _ _) (List.length_take_le _ _)
theorem l2Often_any (A : Option Addr) (c : Nat) (l : List Nat) (x : Nat) (w : World) (B : Nat) (hr : Rd w B A (iv (ni l))) (hl : l.length ≤ 1000) :
    Calls Try.prog 71 #[.slice A l.length c, .int .i64 x] w fun e w' => e = .returned (.int .i64 (often l x : Nat)) ∧ w = w' := by
  have HR := Lib.hid hr
  clear hr
  go_enter Try.func71, Try.ntmps71
  go_wp2
  go_loop [5, 6] (fun t i => ∃ (k : Nat), k ≤ l.length ∧ i = .int .i64 k ∧ t = .int .i64 (often (l.take k) x : Nat)) (fun _ i => l.length - (intOf i).toNat)
  case atStart => exact ⟨0, Nat.zero_le _, rfl, rfl⟩
  case round =>
    obtain ⟨k, hk, rfl, rfl⟩ := hrel
    have hle := often_take_le l x k
    by_cases hlt : k < l.length
    · obtain ⟨b, off, rfl, hbb, x0⟩ := HR.out.at_ (niv_get l k hlt)
      have HT := Lib.hid (often_take l x k hlt)
      obtain ⟨y, hy⟩ : ∃ y, l[k] = y := ⟨_, rfl⟩
      rw [hy] at HT x0
      clear hy HR
      by_cases he : y = x
      · have hb := int_beq_yes he
        rw [if_pos he] at HT
        clear he
        go_wp2
        go_round
        case rel => exact ⟨k + 1, by omega, by go_num, by rw [HT.out]; go_num⟩
        case measure => simp [intOf]; omega
      · have hb := int_beq_no he
        rw [if_neg he] at HT
        clear he
        go_wp2
        go_round
        case rel => exact ⟨k + 1, by omega, by go_num, by rw [HT.out]; rfl⟩
        case measure => simp [intOf]; omega
    · have HK := Lib.hid (show often (l.take k) x = often l x by rw [List.take_of_length_le (by omega)])
      go_wp2
      go_ret
      exact ⟨by rw [← HK.out]; rfl, rfl⟩
/-- how often each number below M is in a list -/
def cnts (M : Nat) (l : List Nat) : List Nat := (List.range M).map fun c => often l c
theorem cnts_length (M : Nat) (l : List Nat) : (cnts M l).length = M := by simp [cnts]
theorem cnts_get (M : Nat) (l : List Nat) (c : Nat) (hc : c < M) : (cnts M l)[c]'(by rw [cnts_length]; exact hc) = often l c := by simp [cnts]
theorem cnts_set (M : Nat) (l : List Nat) (x : Nat) (_hx : x < M) : (iv (ni (cnts M l))).set x (.int .i64 ((often l x : Nat) + 1)) = iv (ni (cnts M (l ++ [x]))) := by
  refine List.ext_getElem (by simp [iv, ni, cnts]) fun k h1 h2 => ?_
  rw [List.getElem_set]
  simp only [iv, ni, cnts, List.getElem_map, List.getElem_range]
  rw [often_snoc]
  by_cases h : x = k
  · subst h; rw [if_pos rfl, if_pos rfl]; rfl
  · rw [if_neg h, if_neg h]; rfl
theorem cnts_nil (M : Nat) : (madeCells #[Value.int .i64 0] M).toList = iv (ni (cnts M [])) := by
  refine List.ext_getElem (by simp [madeCells, iv, ni, cnts]) fun k h1 h2 => ?_
  simp [madeCells, iv, ni, cnts, often_nil, Nat.mod_one]
set_option maxHeartbeats 800000 in
theorem timesIn_any (A A2 : Option Addr) (c c2 : Nat) (g : List ByteArray) (l : List Nat) (w : World) (hr : Rd w w.heap.size A (sv g)) (hg : gridB g = true) (hl : Rd w w.heap.size A2 (iv (ni l))) (hin : ∀ x ∈ l, x < cellsN g) (hll : l.length ≤ 1000) :
    Calls Try.prog 70 #[.slice A g.length c, .slice A2 l.length c2] w fun e w' => ∃ A' c', e = .returned (.slice A' (cellsN g) c') ∧ w'.ownsRow w.heap.size 3 1 (.slice A' (cellsN g) c') (cellsN g) (iv (ni (cnts (cellsN g) l))) ∧ Below w.heap.size w w' := by
  have HC := Lib.hid (cells_any A c g w _ hr hg)
  have hM : cellsN g ≤ 25 := by
    have := (mul_bd (grid_len hg).2 (grid_width hg).2).1
    rw [← Int.natCast_mul] at this
    unfold cellsN; omega
  have HR := Lib.hid hl
  have HI := Lib.hid hin
  clear hr hg hl hin
  generalize cellsN g = M at *
  have hmk := run_make_row' (P := Try.prog) 24 3 (.int .i64 0) 8 Try.underlying24 infoInt rfl .i64 .i64 M (by omega) (by omega)
  go_enter Try.func70, Try.ntmps70
  go_wp2_with fail
  refine HC.out.mono ?_
  rintro e w' ⟨rfl, rfl⟩
  clear HC
  go_wp2
  go_loopw [13] (fun i wr => ∃ (k : Nat) (cs : Array Value), k ≤ l.length ∧ i = .int .i64 k ∧ Hid (wr.heap[w.heap.size]? = some (.cells cs 3 (0, 0))) ∧ Hid (cs.toList = iv (ni (cnts M (l.take k)))) ∧ Hid (Below w.heap.size w wr))
    (fun i _ => l.length - (intOf i).toNat)
  case atStart => exact ⟨0, _, Nat.zero_le _, rfl, heap_alloc_new w _, cnts_nil M, below_alloc1 w _⟩
  case round =>
    obtain ⟨k, cs, hk, rfl, H1, H2, H4⟩ := hrel
    clear hmk
    have hcs : cs.size = M := by
      have := congrArg List.length H2.out
      rw [Array.length_toList, iv_length, ni_length, cnts_length] at this
      exact this
    by_cases hlt : k < l.length
    · obtain ⟨b, off, rfl, hbb, x0⟩ := (HR.out.below H4.out).at_ (niv_get l k hlt)
      have HT := Lib.hid (List.take_succ_eq_append_getElem hlt)
      have hx := HI.out l[k] (List.getElem_mem hlt)
      obtain ⟨x, hxx⟩ : ∃ x, l[k] = x := ⟨_, rfl⟩
      rw [hxx] at HT x0 hx
      clear hxx
      have hxs : x < cs.size := by omega
      have hcv : cs[x] = .int .i64 (often (l.take k) x : Nat) := by
        have h1 : cs.toList[x]? = some cs[x] := by rw [Array.getElem?_toList, Array.getElem?_eq_getElem hxs]
        rw [H2.out, niv_get _ x (by rw [cnts_length]; exact hx), cnts_get M _ x hx] at h1
        injection h1 with h1
        exact h1.symm
      have hc2 := row_cell H1.out x hxs
      rw [hcv] at hc2
      have hf2 := row_frozen H1.out x
      have hle := often_take_le l x k
      have H2' := Lib.hid (show (cs.setIfInBounds x (.int .i64 ((often (l.take k) x : Nat) + 1))).toList = iv (ni (cnts M (l.take (k + 1)))) by
        rw [Array.toList_setIfInBounds, H2.out, cnts_set M _ x hx, HT.out])
      clear hcv
      go_wp2
      go_roundw
      case rel => exact ⟨k + 1, _, by omega, by go_num, row_set H1.out _ _, H2'.out, H4.out.setCell (Nat.le_refl _) _⟩
      case measure => simp [intOf]; omega
    · have HK := Lib.hid (show cnts M (l.take k) = cnts M l by rw [List.take_of_length_le (by omega)])
      go_wp2
      go_ret
      refine ⟨_, _, rfl, ?_, H4.out⟩
      rw [← HK.out, ← H2.out]
      exact own_of_row H1.out (Nat.le_refl _) hcs (by simp only [maxLen]; omega)
noncomputable def twiceA (g : List ByteArray) (p : Int) : Nat := cntB (cellsN g) fun c => often (wayA g p) c == 2
theorem twiceA_no {g : List ByteArray} {p : Int} (h : givenB g p = false) : twiceA g p = 0 := by
  unfold twiceA
  rw [wayA_no h]
  exact cntB_none _ fun x _ => rfl
theorem way_often {g : List ByteArray} (p : Int) (x : Nat) : often (wayA g p) x ≤ 2 := by
  cases hb : givenB g p
  · rw [wayA_no hb]; exact Nat.zero_le _
  · obtain ⟨k, rfl, hk, hg⟩ := given_nat hb
    obtain ⟨he, _⟩ := ends_B hg hk
    rw [wayA_yes hb]
    exact Fd.way_two (grid_hn hg) (grid_hm hg) (by rw [ports_fld]; exact hk) he x
theorem cells_25 {g : List ByteArray} (hg : gridB g = true) : cellsN g ≤ 25 := by
  have := (mul_bd (grid_len hg).2 (grid_width hg).2).1
  rw [← Int.natCast_mul] at this
  unfold cellsN; omega
set_option maxHeartbeats 800000 in
theorem iBeamTwice_any (A : Option Addr) (c : Nat) (g : List ByteArray) (p : Int) (w : World) (hr : Rd w w.heap.size A (sv g)) (hm : g.length ≤ maxLen) (hs : ∀ s ∈ g, s.size ≤ maxLen) :
    Calls Try.prog 46 #[.slice A g.length c, .int .i64 p] w fun e w' => e = .returned (.tuple #[.int .i64 (twiceA g p : Nat), .bool (givenB g p)]) ∧ Below w.heap.size w w' := by
  have HW := Lib.hid (iBeamWay_any A c g p w hr hm hs)
  have HR := Lib.hid hr
  clear hr hm hs
  cases hb : givenB g p
  · rw [hb] at HW
    have HN := Lib.hid (twiceA_no hb)
    clear hb
    go_enter Try.func46, Try.ntmps46
    go_wp2_with fail
    refine HW.out.mono ?_
    rintro e w1 ⟨A1, c1, rfl, ho1, hb1⟩
    clear ho1
    go_wp2
    go_ret2
    exact ⟨by rw [HN.out]; rfl, hb1⟩
  · rw [hb] at HW
    have hg := (givenB_iff.1 hb).1
    have HT := Lib.hid (show twiceA g p = cntB (cellsN g) fun c => often (wayA g p) c == 2 from rfl)
    have HM := Lib.hid (fun x (h : x ∈ wayA g p) => (way_mem h).2)
    have hlen := wayA_len g p
    have hM := cells_25 hg
    have HG := Lib.hid hg
    have HL0 := Lib.hid (ni_length (wayA g p))
    clear hb hg
    go_enter Try.func46, Try.ntmps46
    go_wp2_with fail
    refine HW.out.mono ?_
    rintro e w1 ⟨A1, c1, rfl, ho1, hb1⟩
    have HTI := Lib.hid (timesIn_any A A1 c c1 g (wayA g p) w1 (HR.out.later hb1) HG.out (Rd.of_own ho1) HM.out (by omega))
    clear ho1 HW HR HM
    rw [HL0.out]
    clear HL0
    generalize wayA g p = l at *
    go_wp2_with fail
    refine HTI.out.mono ?_
    rintro e w2 ⟨A2, c2, rfl, ho2, hb2⟩
    have HC := Lib.hid (Rd.of_own ho2)
    have HB := Lib.hid (below_next hb1 hb2)
    clear ho2 hb1 hb2 HTI
    generalize cellsN g = M at *
    go_wp2
    go_loop [8, 23] (fun t i => ∃ (k : Nat), k ≤ M ∧ i = .int .i64 k ∧ t = .int .i64 (cntB k (fun c => often l c == 2) : Nat)) (fun _ i => M - (intOf i).toNat)
    case atStart => exact ⟨0, Nat.zero_le _, rfl, rfl⟩
    case round =>
      obtain ⟨k, hk, rfl, rfl⟩ := hrel
      have hle := cntB_le k fun c => often l c == 2
      by_cases hlt : k < M
      · have hget := niv_get (cnts M l) k (by rw [cnts_length]; exact hlt)
        rw [cnts_get M l k hlt] at hget
        obtain ⟨b, off, rfl, hbb, x0⟩ := HC.out.at_ hget
        have HS := Lib.hid (cntB_succ k fun c => often l c == 2)
        clear hget HC
        obtain ⟨y, hy⟩ : ∃ y, often l k = y := ⟨_, rfl⟩
        simp only [hy] at HS x0
        clear hy
        by_cases he : y = 2
        · have hb2 := int_beq_yes he
          have HS2 := Lib.hid (show cntB (k + 1) (fun c => often l c == 2) = cntB k (fun c => often l c == 2) + 1 by rw [HS.out, he]; rfl)
          clear he HS
          go_wp2
          go_round
          case rel => exact ⟨k + 1, by omega, by go_num, by rw [HS2.out]; go_num⟩
          case measure => simp [intOf]; omega
        · have hb2 := int_beq_no he
          have HS2 := Lib.hid (show cntB (k + 1) (fun c => often l c == 2) = cntB k (fun c => often l c == 2) by rw [HS.out, if_neg (by simpa using he)]; rfl)
          clear he HS
          go_wp2
          go_round
          case rel => exact ⟨k + 1, by omega, by go_num, by rw [HS2.out]⟩
          case measure => simp [intOf]; omega
      · have HK := Lib.hid (show k = M by omega)
        go_wp2
        go_ret2
        exact ⟨by rw [HT.out, ← HK.out]; rfl, HB.out⟩
/-- what the first k places of a list add -/
def more (l : List Nat) (k : Nat) : Nat := ((l.take k).map fun x => often l x - 1).sum
theorem more_succ (l : List Nat) (k : Nat) (hk : k < l.length) : ((more l (k + 1) : Nat) : Int) = (more l k : Int) + (often l l[k] : Int) - 1 := by
  unfold more
  rw [List.take_succ_eq_append_getElem hk, List.map_append, List.sum_append]
  have := often_pos.2 (List.getElem_mem hk)
  simp; omega
theorem more_le (l : List Nat) (h2 : ∀ x, often l x ≤ 2) (k : Nat) : more l k ≤ k := by
  unfold more
  have h : ∀ m : List Nat, (m.map fun x => often l x - 1).sum ≤ m.length := fun m => by
    induction m with
    | nil => exact Nat.le_refl _
    | cons a m ih =>
      rw [List.map_cons, List.sum_cons, List.length_cons]
      have := h2 a; omega
  exact Nat.le_trans (h _) (List.length_take_le _ _)
set_option maxHeartbeats 800000 in
theorem sBeamTwice_any (A : Option Addr) (c : Nat) (g : List ByteArray) (p : Int) (w : World) (hr : Rd w w.heap.size A (sv g)) (hm : g.length ≤ maxLen) (hs : ∀ s ∈ g, s.size ≤ maxLen) :
    Calls Try.prog 47 #[.slice A g.length c, .int .i64 p] w fun e w' => e = .returned (.tuple #[.int .i64 (twiceA g p : Nat), .bool (givenB g p)]) ∧ Below w.heap.size w w' := by
  have hP := l2Given_any A c g p w _ hr hm hs
  cases hb : givenB g p
  · rw [hb] at hP
    have HP := Lib.hid hP
    have HN := Lib.hid (twiceA_no hb)
    clear hP hb hr hm hs
    go_enter Try.func47, Try.ntmps47
    go_wp2_with fail
    refine HP.out.mono ?_
    rintro e w' ⟨rfl, hd⟩
    go_wp2
    go_ret2
    exact ⟨by rw [HN.out]; rfl, hd.below _⟩
  · rw [hb] at hP
    obtain ⟨k, rfl, hk, hg⟩ := given_nat hb
    obtain ⟨he, hN⟩ := ends_B hg hk
    have HB := Lib.hid (fun w hr => l2Way_any A c g k _ _ w hr hg hk he hN)
    have HP := Lib.hid hP
    have HN1 := Lib.hid (wayA_yes_len hb)
    have HN2 := Lib.hid (wayA_yes_iv hb)
    have HT := Lib.hid (show 2 * twiceA g k = more (wayA g k) (wayA g k).length by
      unfold twiceA more
      rw [List.take_length]
      exact (twice_sum (cellsN g) (wayA g k) (fun x hx => (way_mem hx).2) (way_often k)).symm)
    clear hP hb hm hs he hN hg
    go_enter Try.func47, Try.ntmps47
    go_wp2_with fail
    refine HP.out.mono ?_
    rintro e w' ⟨rfl, hd⟩
    have hr' := hr.later (hd.below _)
    clear hr
    go_wp2_with fail
    refine (HB.out _ hr').mono ?_
    rintro e w1 ⟨A1, c1, A2, c2, rfl, ho1, ho2, hb1⟩
    rw [HN2.out] at ho1
    have hL1 := Rd.of_own ho1
    have HL := Lib.hid hL1
    have HW := Lib.hid (below_next (hd.below _) hb1)
    clear ho1 ho2 hL1 hb1 hr' hd HB HN2 HP
    rw [← HN1.out, ni_len100]
    have hlen := wayA_len g k
    have H2 := Lib.hid (way_often (g := g) k)
    obtain ⟨tw, htw⟩ : ∃ tw, twiceA g k = tw := ⟨_, rfl⟩
    rw [htw] at HT
    have HTW := Lib.hid htw
    clear HN1 htw
    generalize wayA g k = l at *
    go_wp2
    go_loop [6, 10] (fun t i => ∃ (k : Nat), k ≤ l.length ∧ i = .int .i64 k ∧ t = .int .i64 (more l k : Nat)) (fun _ i => l.length - (intOf i).toNat)
    case atStart => exact ⟨0, Nat.zero_le _, rfl, rfl⟩
    case round =>
      obtain ⟨k, hk, rfl, rfl⟩ := hrel
      have hml := more_le l H2.out k
      by_cases hlt : k < l.length
      · obtain ⟨b, off, rfl, hbb, x0⟩ := HL.out.at_ (niv_get l k hlt)
        have HO := Lib.hid (l2Often_any (some ⟨b, off, none⟩) c1 l l[k] w1 _ HL.out (by omega))
        have HMS := Lib.hid (more_succ l k hlt)
        have ho2 := H2.out l[k]
        obtain ⟨x, hx⟩ : ∃ x, l[k] = x := ⟨_, rfl⟩
        rw [hx] at HO HMS x0 ho2
        clear hx HL
        go_wp2_with fail
        refine HO.out.mono ?_
        rintro e w2 ⟨rfl, rfl⟩
        go_wp2
        go_round
        case rel => exact ⟨k + 1, by omega, by go_num, by rw [HMS.out]; try go_num⟩
        case measure => simp [intOf]; omega
      · have HK := Lib.hid (show (more l k : Int) / 2 = (tw : Int) by
          have : k = l.length := by omega
          rw [this, ← HT.out]; omega)
        go_wp2
        go_ret2
        exact ⟨by rw [HTW.out, ← HK.out]; rfl, HW.out⟩
end Go.Proofs.Ytfiaidphcecnhaa
