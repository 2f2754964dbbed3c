/-
  CONTRACTS: put, GridPut of the program; l1Put, GridPut of the reference.
-/
import Derived.Test.YthjllnabjnjpmaaM
import Derived.Test.YthjllnabjnjpmaaQ
import Derived.Lib.ConvBytes
namespace Go.Proofs.Ythjllnabjnjpmaa
set_option maxRecDepth 100000
open Go.RowKit

def putB (g : List ByteArray) (cell : Int) (t : ByteArray) : Bool := gridB g && inB cell 0 ((cellsN g : Int) - 1) && (t.size == 1) && letterB (t.toList.getD 0 0)
def putR (g : List ByteArray) (cell : Int) (t : ByteArray) : List ByteArray := if putB g cell t then gPut g cell.toNat (t.toList.getD 0 0) else []
theorem putR_no {g : List ByteArray} {cell : Int} {t : ByteArray} (h : putB g cell t = false) : putR g cell t = [] := by unfold putR; rw [h]; rfl
theorem one_byte {t : ByteArray} (h : t.size = 1) : ∃ b, t = ⟨#[b]⟩ := by
  cases t with
  | mk d =>
    cases d with
    | mk l =>
      match l, h with
      | [b], _ => exact ⟨b, rfl⟩
theorem len_gridput (g : List ByteArray) (cell : Int) (t : ByteArray) : (putR g cell t).length ≤ 100 := by
  cases hb : putB g cell t
  · rw [putR_no hb]; exact Nat.zero_le _
  · unfold putR
    rw [hb, if_pos rfl]
    unfold putB at hb
    have h1 := grid_len (Bool.and_eq_true_iff.1 (Bool.and_eq_true_iff.1 (Bool.and_eq_true_iff.1 hb).1).1).1
    unfold gPut
    rw [mkG_length]; omega

def putL (g : List ByteArray) (m cell : Nat) (b : UInt8) (r c : Nat) : UInt8 := if r * m + c = cell then b else cellAt g r c
theorem put1_any (A : Option Addr) (cp bg bc bl bm B cell r c m : Nat) (b : UInt8) (g : List ByteArray) (w : World)
    (hg : w.cell? ⟨bg, 0, none⟩ = some (.slice A g.length cp)) (hce : w.cell? ⟨bc, 0, none⟩ = some (.int .i64 cell)) (hl : w.cell? ⟨bl, 0, none⟩ = some (.int .u8 b.toNat)) (hm : w.cell? ⟨bm, 0, none⟩ = some (.int .i64 m))
    (hr : Rd w B A (sv g)) (h1 : r < g.length) (h2 : c < g[r].size) (h3 : g.length ≤ 5) (h4 : g[r].size ≤ 5) (h5 : m ≤ 5) :
    Calls Try.prog 58 #[.int .i64 r, .int .i64 c, .pointer (some ⟨bm, 0, none⟩), .pointer (some ⟨bc, 0, none⟩), .pointer (some ⟨bl, 0, none⟩), .pointer (some ⟨bg, 0, none⟩)] w
      fun e w' => e = .returned (.int .u8 (putL g m cell b r c).toNat) ∧ Dr w w' := by
  obtain ⟨bb, off, rfl, hb, hc⟩ := hr.at_ (sv_get g r h1)
  have HE := Lib.hid (cellAt_eq h1 h2)
  have hmul := mul_bd (n := r) (m := m) (a := 5) (b := 5) (by omega) h5
  obtain ⟨hmul1, hmul2⟩ := hmul
  have hi1 : (r : Int) < (g.length : Int) := Int.ofNat_lt.2 h1
  have hi2 : (c : Int) < (g[r].size : Int) := Int.ofNat_lt.2 h2
  generalize g[r] = s at *
  clear hr
  by_cases he : r * m + c = cell
  · have HI := Lib.hid (show putL g m cell b r c = b from if_pos he)
    have heq : (((r : Int) * (m : Int) + (c : Int)) == (cell : Int)) = true := by rw [beq_iff_eq, ← he, Int.natCast_add, Int.natCast_mul]
    clear he
    go_enter Try.func58, Try.ntmps58
    go_wp2
    go_ret
    exact ⟨by rw [HI.out]; rfl, Dr.refl _⟩
  · have HI := Lib.hid (show putL g m cell b r c = cellAt g r c from if_neg he)
    have heq : (((r : Int) * (m : Int) + (c : Int)) == (cell : Int)) = false := by
      rw [beq_eq_false_iff_ne]
      intro e
      rw [← Int.natCast_mul, ← Int.natCast_add] at e
      exact he (by exact_mod_cast e)
    clear he
    go_enter Try.func58, Try.ntmps58
    go_wp2
    go_ret
    exact ⟨by rw [HI.out, HE.out]; rfl, Dr.refl _⟩

set_option maxHeartbeats 1600000 in
theorem put_any (A : Option Addr) (c cell : Nat) (b : UInt8) (g : List ByteArray) (w : World) (hr : Rd w w.heap.size A (sv g)) (hg : gridB g = true) :
    Calls Try.prog 40 #[.slice A g.length c, .int .i64 cell, .int .u8 b.toNat] w (FreshS (gPut g cell b) w) := by
  have HGG := Lib.hid hg
  have hlen := grid_len hg
  have hwid := grid_width hg
  have hw0 := width_eq (g := g) (by omega)
  obtain ⟨hlen1, hlen2⟩ := hlen
  obtain ⟨b0, off, rfl, hb0, hx⟩ := hr.at_ (sv_get g 0 (by omega))
  rw [Nat.add_zero] at hx
  have hsz : g[0].size ≤ 5 := by omega
  have HW := Lib.hid hw0
  have hgl : 0 < g.length := by omega
  generalize g[0] = s0 at *
  clear hg hw0 hwid
  have hW1 := below_alloc1 w (.cells #[.slice (some ⟨b0, off, none⟩) g.length c] 23)
  have hW2 := hW1.alloc hW1.size (.cells #[.int .i64 cell] 3)
  have hW3 := hW2.alloc hW2.size (.cells #[.int .u8 b.toNat] 5)
  have hc3 := (hW3.cell (p := ⟨b0, off, none⟩) hb0).trans hx
  have hW4 := hW3.alloc hW3.size (.cells #[.int .i64 s0.size] 3)
  have hr4 := hr.below hW4
  have e1 : ((((w.alloc (.cells #[.slice (some ⟨b0, off, none⟩) g.length c] 23)).alloc (.cells #[.int .i64 cell] 3)).alloc (.cells #[.int .u8 b.toNat] 5)).alloc (.cells #[.int .i64 s0.size] 3)).cell? ⟨w.heap.size + 3, 0, none⟩ = some (.int .i64 s0.size) := by
    have h : w.heap.size + 3 = (((w.alloc (.cells #[.slice (some ⟨b0, off, none⟩) g.length c] 23)).alloc (.cells #[.int .i64 cell] 3)).alloc (.cells #[.int .u8 b.toNat] 5)).heap.size := by simp
    rw [h, cell_of_row _ _ 0 _ _ (0, 0) (heap_alloc_new _ _)]; rfl
  have e2 : ((((w.alloc (.cells #[.slice (some ⟨b0, off, none⟩) g.length c] 23)).alloc (.cells #[.int .i64 cell] 3)).alloc (.cells #[.int .u8 b.toNat] 5)).alloc (.cells #[.int .i64 s0.size] 3)).cell? ⟨w.heap.size + 2, 0, none⟩ = some (.int .u8 b.toNat) := by
    rw [World.cell?_alloc_lt _ _ _ (by simp)]
    have h : w.heap.size + 2 = ((w.alloc (.cells #[.slice (some ⟨b0, off, none⟩) g.length c] 23)).alloc (.cells #[.int .i64 cell] 3)).heap.size := by simp
    rw [h, cell_of_row _ _ 0 _ _ (0, 0) (heap_alloc_new _ _)]; rfl
  have e3 : ((((w.alloc (.cells #[.slice (some ⟨b0, off, none⟩) g.length c] 23)).alloc (.cells #[.int .i64 cell] 3)).alloc (.cells #[.int .u8 b.toNat] 5)).alloc (.cells #[.int .i64 s0.size] 3)).cell? ⟨w.heap.size + 1, 0, none⟩ = some (.int .i64 cell) := by
    rw [World.cell?_alloc_lt _ _ _ (by simp), World.cell?_alloc_lt _ _ _ (by simp)]
    have h : w.heap.size + 1 = (w.alloc (.cells #[.slice (some ⟨b0, off, none⟩) g.length c] 23)).heap.size := by simp
    rw [h, cell_of_row _ _ 0 _ _ (0, 0) (heap_alloc_new _ _)]; rfl
  have e4 : ((((w.alloc (.cells #[.slice (some ⟨b0, off, none⟩) g.length c] 23)).alloc (.cells #[.int .i64 cell] 3)).alloc (.cells #[.int .u8 b.toNat] 5)).alloc (.cells #[.int .i64 s0.size] 3)).cell? ⟨w.heap.size, 0, none⟩ = some (.slice (some ⟨b0, off, none⟩) g.length c) := by
    rw [World.cell?_alloc_lt _ _ _ (by simp; omega), World.cell?_alloc_lt _ _ _ (by simp; omega), World.cell?_alloc_lt _ _ _ (by simp), cell_of_row _ _ 0 _ _ (0, 0) (heap_alloc_new _ _)]; rfl
  have HE1 := Lib.hid e1
  have HE2 := Lib.hid e2
  have HE3 := Lib.hid e3
  have HE4 := Lib.hid e4
  have HR4 := Lib.hid hr4
  have HW4 := Lib.hid hW4
  clear e1 e2 e3 e4 hr4 hW1 hW2 hW3 hW4
  go_enter Try.func40, Try.ntmps40
  go_wp2_with fail
  refine (makeGrid_any 58 #[.pointer (some ⟨w.heap.size + 3, 0, none⟩), .pointer (some ⟨w.heap.size + 1, 0, none⟩), .pointer (some ⟨w.heap.size + 2, 0, none⟩), .pointer (some ⟨w.heap.size, 0, none⟩)] _ g.length s0.size (putL g s0.size cell b) _ (w.heap.size + 4) (by omega) (by omega) (by simp)
    (clo_reads (w0 := ((((w.alloc (.cells #[.slice (some ⟨b0, off, none⟩) g.length c] 23)).alloc (.cells #[.int .i64 cell] 3)).alloc (.cells #[.int .u8 b.toNat] 5)).alloc (.cells #[.int .i64 s0.size] 3))) (call_enter Try.func58 (by kernel_rfl) rfl)
      (fun r c' w' hr hc hO => put1_any _ c w.heap.size (w.heap.size + 1) (w.heap.size + 2) (w.heap.size + 3) w.heap.size cell r c' s0.size b g w' ((hO.cell _ (by simp)).trans HE4.out) ((hO.cell _ (by simp)).trans HE3.out) ((hO.cell _ (by simp)).trans HE2.out) ((hO.cell _ (by simp)).trans HE1.out)
        (HR4.out.keep fun p hp => hO.cell p (by omega)) hr (by rw [grid_row HGG.out, HW.out]; exact hc) hlen2 (grid_small HGG.out _ (List.getElem_mem _)) hsz)) (fun _ _ => rfl)).mono ?_
  rintro e w1 ⟨A1, c1, rfl, ho, hI, hS⟩
  have hB := below_of_old HW4.out hI (by omega) hS
  have HF := Lib.hid (show gPut g cell b = mkG g.length s0.size (putL g s0.size cell b) by unfold gPut; rw [HW.out]; rfl)
  clear hI hS
  go_wp2
  go_ret
  rw [HF.out]
  have hl : (mkG g.length s0.size (putL g s0.size cell b)).length = g.length := mkG_length _ _ _
  exact ⟨A1, c1, by rw [hl]; rfl, by rw [hl]; exact own_mono ho (by omega), hB⟩

set_option maxHeartbeats 1600000 in
theorem iGridPut_any (A : Option Addr) (c : Nat) (g : List ByteArray) (cell : Int) (t : ByteArray) (w : World) (hr : Rd w w.heap.size A (sv g)) (hm : g.length ≤ maxLen) (hs : ∀ s ∈ g, s.size ≤ maxLen) (ht : t.size ≤ maxLen) :
    Calls Try.prog 13 #[.slice A g.length c, .int .i64 cell, .string t] w (FreshSB (putR g cell t) (putB g cell t) w) := by
  unfold maxLen at ht
  have HGi := Lib.hid (iGridIn_any A c g w _ hr hm hs)
  cases hg : gridB g
  · have HB2 := Lib.hid (show putB g cell t = false by unfold putB; rw [hg]; rfl)
    have H := Lib.hid (putR_no HB2.out)
    rw [hg] at HGi
    clear hg hm hs
    go_enter Try.func13, Try.ntmps13
    go_wp2_with fail
    refine HGi.out.mono ?_
    rintro e w1 ⟨rfl, rfl⟩
    go_wp2
    go_ret2
    rw [H.out, HB2.out]
    exact fresh_nil (Below.refl _ _) rfl
  · rw [hg] at HGi
    have HG := Lib.hid hg
    clear hm hs
    cases h1 : inB cell 0 ((cellsN g : Int) - 1)
    · have HB2 := Lib.hid (show putB g cell t = false by unfold putB; rw [hg, h1]; rfl)
      have H := Lib.hid (putR_no HB2.out)
      have H1 := Lib.hid h1
      have hcn := cellsN_le hg
      clear hg h1
      go_enter Try.func13, Try.ntmps13
      go_wp2_with fail
      refine HGi.out.mono ?_
      rintro e w1 ⟨rfl, rfl⟩
      go_wp2_with fail
      refine (cells_any _ _ _ _ _ hr HG.out).mono ?_
      rintro e w1 ⟨rfl, rfl⟩
      go_wp2_with fail
      refine (within_b _ _ _ _ H1.out _).mono ?_
      rintro e w1 ⟨rfl, rfl⟩
      go_wp2
      go_ret2
      rw [H.out, HB2.out]
      exact fresh_nil (Below.refl _ _) rfl
    · have H1 := Lib.hid h1
      have hcn := cellsN_le hg
      by_cases h2 : t.size = 1
      · obtain ⟨bt, rfl⟩ := one_byte h2
        have HBT : Hid ((⟨#[bt]⟩ : ByteArray).toList.getD 0 0 = bt) := by simp [Hid, ByteArray.toList_eq]
        cases h3 : letterB bt
        · have HB2 := Lib.hid (show putB g cell ⟨#[bt]⟩ = false by unfold putB; rw [HBT.out, h3, Bool.and_false])
          have H := Lib.hid (putR_no HB2.out)
          have H3 := Lib.hid h3
          clear hg h1 h2 h3
          go_enter Try.func13, Try.ntmps13
          go_wp2_with fail
          refine HGi.out.mono ?_
          rintro e w1 ⟨rfl, rfl⟩
          go_wp2_with fail
          refine (cells_any _ _ _ _ _ hr HG.out).mono ?_
          rintro e w1 ⟨rfl, rfl⟩
          go_wp2_with fail
          refine (within_b _ _ _ _ H1.out _).mono ?_
          rintro e w1 ⟨rfl, rfl⟩
          go_wp2_with fail
          refine (letterOk_b _ _ H3.out _).mono ?_
          rintro e w1 ⟨rfl, rfl⟩
          go_wp2
          go_ret2
          rw [H.out, HB2.out]
          exact fresh_nil (Below.refl _ _) rfl
        · have HB2 := Lib.hid (show putB g cell ⟨#[bt]⟩ = true by unfold putB; rw [HBT.out, h3, hg, h1]; rfl)
          have hq := inB_iff.1 h1
          obtain ⟨cell, rfl⟩ := Int.eq_ofNat_of_zero_le hq.1
          have H := Lib.hid (show putR g cell ⟨#[bt]⟩ = gPut g cell bt by unfold putR; rw [HB2.out, HBT.out]; rfl)
          have H3 := Lib.hid h3
          clear hg h1 h2 h3 hq
          go_enter Try.func13, Try.ntmps13
          go_wp2_with fail
          refine HGi.out.mono ?_
          rintro e w1 ⟨rfl, rfl⟩
          go_wp2_with fail
          refine (cells_any _ _ _ _ _ hr HG.out).mono ?_
          rintro e w1 ⟨rfl, rfl⟩
          go_wp2_with fail
          refine (within_b _ _ _ _ H1.out _).mono ?_
          rintro e w1 ⟨rfl, rfl⟩
          go_wp2_with fail
          refine (letterOk_b _ _ H3.out _).mono ?_
          rintro e w1 ⟨rfl, rfl⟩
          go_wp2_with fail
          refine (put_any _ _ _ _ _ _ hr HG.out).mono ?_
          rintro e w2 ⟨A2, c2, rfl, ho2, hb2⟩
          go_wp2
          go_ret2
          rw [H.out, HB2.out]
          exact ⟨A2, c2, rfl, ho2, hb2⟩
      · have HB2 := Lib.hid (show putB g cell t = false by unfold putB; rw [beq_eq_false_iff_ne.2 h2, Bool.and_false]; rfl)
        have H := Lib.hid (putR_no HB2.out)
        have h2b : ((t.size : Int) != 1) = true := by rw [bne_iff_ne]; omega
        clear hg h1 h2
        go_enter Try.func13, Try.ntmps13
        go_wp2_with fail
        refine HGi.out.mono ?_
        rintro e w1 ⟨rfl, rfl⟩
        go_wp2_with fail
        refine (cells_any _ _ _ _ _ hr HG.out).mono ?_
        rintro e w1 ⟨rfl, rfl⟩
        go_wp2_with fail
        refine (within_b _ _ _ _ H1.out _).mono ?_
        rintro e w1 ⟨rfl, rfl⟩
        go_wp2
        go_ret2
        rw [H.out, HB2.out]
        exact fresh_nil (Below.refl _ _) rfl

/-! ### plain: a grid is made of its letters -/
theorem rowOf_getElem (m : Nat) (f : Nat → UInt8) (c : Nat) (h : c < (rowOf m f).length) : (rowOf m f)[c] = f c := by simp [rowOf]
theorem row_self {g : List ByteArray} (hg : gridB g = true) (r : Nat) (hr : r < g.length) : bs (rowOf (width g) (cellAt g r)) = g[r] := by
  apply toList_inj
  rw [bs_toList]
  refine List.ext_getElem (by rw [rowOf_length, toList_length, grid_row hg r hr]) fun c h1 h2 => ?_
  have hc : c < g[r].size := by rw [toList_length] at h2; exact h2
  rw [rowOf_getElem, toList_get _ c hc, cellAt_eq hr hc]
theorem mkG_getElem (n m : Nat) (f : Nat → Nat → UInt8) (r : Nat) (h : r < (mkG n m f).length) : (mkG n m f)[r] = bs (rowOf m (f r)) := by simp [mkG]
theorem grid_self {g : List ByteArray} (hg : gridB g = true) : mkG g.length (width g) (cellAt g) = g := by
  refine List.ext_getElem (by rw [mkG_length]) fun r h1 h2 => ?_
  rw [mkG_getElem, row_self hg r h2]
theorem rc_iff {r c m cell : Nat} (hc : c < m) : r * m + c = cell ↔ r = cell / m ∧ c = cell % m := by
  constructor
  · rintro rfl
    have h0 : 0 < m := by omega
    refine ⟨?_, ?_⟩
    · rw [Nat.mul_comm, Nat.mul_add_div h0, Nat.div_eq_of_lt hc, Nat.add_zero]
    · rw [Nat.mul_comm, Nat.mul_add_mod, Nat.mod_eq_of_lt hc]
  · rintro ⟨rfl, rfl⟩
    rw [Nat.mul_comm]; exact Nat.div_add_mod cell m
theorem put_set {g : List ByteArray} (hg : gridB g = true) (cell : Nat) (b : UInt8) (hil : cell / width g < g.length) :
    gPut g cell b = g.set (cell / width g) (bs ((g[cell / width g].toList).set (cell % width g) b)) := by
  have e : gPut g cell b = mkG g.length (width g) (putL g (width g) cell b) := rfl
  rw [e]
  refine List.ext_getElem (by rw [mkG_length, List.length_set]) fun r h1 h2 => ?_
  have hr : r < g.length := by rw [List.length_set] at h2; exact h2
  rw [mkG_getElem, List.getElem_set]
  split
  · rename_i e
    subst e
    congr 1
    refine List.ext_getElem (by rw [rowOf_length, List.length_set, toList_length, grid_row hg]) fun c h3 h4 => ?_
    have hcw : c < width g := by rw [rowOf_length] at h3; exact h3
    have hcs : c < g[cell / width g].size := by rw [grid_row hg]; exact hcw
    rw [rowOf_getElem, List.getElem_set]
    unfold putL
    split
    · rename_i e
      rw [if_pos ((rc_iff hcw).1 e).2.symm]
    · rename_i e
      rw [if_neg (fun h => e ((rc_iff hcw).2 ⟨rfl, h.symm⟩)), toList_get _ c hcs, cellAt_eq hr hcs]
  · rename_i e
    rw [← row_self hg r hr]
    congr 1
    refine List.ext_getElem (by rw [rowOf_length, rowOf_length]) fun c h3 h4 => ?_
    have hcw : c < width g := by rw [rowOf_length] at h3; exact h3
    rw [rowOf_getElem, rowOf_getElem]
    unfold putL
    rw [if_neg (fun h => e ((rc_iff hcw).1 h).1.symm)]

/-! ### []byte(s), written, and back to a text -/
theorem below_bytes (w : World) (e : TypeId) (s : ByteArray) : Below w.heap.size w (Lib.bytesWorld w e s) :=
  ⟨rfl, rfl, rfl, by rw [Lib.bytesWorld_size]; omega, fun k hk => Lib.bytesWorld_at_old w e s k hk⟩
theorem conv_text {P : Program} (w : World) (src dst e : TypeId) (s : ByteArray) {u : TypeDesc} (hs : P.underlying src = some u) (hd : P.underlying dst = some (.slice e)) (he : P.underlying e = some (.int .u8)) :
    ∃ (w3 : World) (cap : Nat) (cs : Array Value), (convert src dst (.string s)).run P w = .ok (.slice (some ⟨w.heap.size, 0, none⟩) s.size cap) w3 ∧ Below w.heap.size w w3 ∧
      w3.heap[w.heap.size]? = some (.cells cs e (cs.size, cs.size + 1)) ∧ s.size ≤ cs.size ∧ ∀ j (hj : j < s.size), cs[j]? = some (.int .u8 s[j].toNat) := by
  refine ⟨_, _, Lib.bytesCells w e s, Lib.run_convert_string_bytes w src dst e s hs hd he, below_bytes w e s, Lib.bytesWorld_at_new w e s, ?_, fun j hj => ?_⟩
  · have : s.data.size = s.size := rfl
    simp [Lib.bytesCells, this]
  · have hj' : j < s.data.size := hj
    unfold Lib.bytesCells
    rw [Array.getElem?_append_left (by simpa using hj')]
    simp
    exact ⟨s.data[j], Array.getElem?_eq_getElem hj', rfl⟩
theorem own_shape {w : World} {base e n : Nat} {v : Value} {xs : List Value} (h : w.ownsRow base e 1 v n xs) (hn : 0 < n) : ∃ gb cap, v = .slice (some ⟨gb, 0, none⟩) n cap ∧ base ≤ gb ∧ gb < w.heap.size := by
  rcases h.2 with ⟨_, h0⟩ | ⟨g, cap, cur, rfl, hb, hg, _⟩
  · omega
  · exact ⟨g, cap, rfl, hb, (Array.getElem?_eq_some_iff.1 hg).1⟩
theorem own_frozen {w : World} {base e n gb c : Nat} {xs : List Value} (h : w.ownsRow base e 1 (.slice (some ⟨gb, 0, none⟩) n c) n xs) (i : Nat) : w.frozen? ⟨gb, i, none⟩ = false := by
  rcases h.2 with ⟨hv, _⟩ | ⟨g, cap, cur, hv, _, hg, _⟩
  · cases hv
  · injection hv with h1 _ _
    injection h1 with h1
    injection h1 with h1 _ _
    subst h1
    exact row_frozen hg i
theorem own_aside {w : World} {base e size n : Nat} {v : Value} {xs : List Value} (h : w.ownsRow base e size v n xs) (a : Addr) (u : Value) (hne : v.ownBlock ≠ some a.block) : (w.setCell a u).ownsRow base e size v n xs := by
  refine ⟨h.1, ?_⟩
  rcases h.2 with hn | ⟨g, cap, cur, hv, hb, hg, r⟩
  · exact .inl hn
  · subst hv
    refine .inr ⟨g, cap, cur, rfl, hb, ?_, r⟩
    rw [Below.heap_setCell _ _ _ _ (fun e => hne (by rw [e]; rfl))]
    exact hg
theorem row_set_fr {w : World} {g e : Nat} {cs : Array Value} {fr : Nat × Nat} (h : w.heap[g]? = some (.cells cs e fr)) (k : Nat) (v : Value) :
    (w.setCell ⟨g, k, none⟩ v).heap[g]? = some (.cells (cs.setIfInBounds k v) e fr) := by
  simp [World.setCell, Array.getElem?_modify, h]
theorem own_set {w : World} {base e n gb c i : Nat} {xs : List Value} {v : Value} (h : w.ownsRow base e 1 (.slice (some ⟨gb, 0, none⟩) n c) n xs) (_hi : i < n) :
    (w.setCell ⟨gb, i, none⟩ v).ownsRow base e 1 (.slice (some ⟨gb, 0, none⟩) n c) n (xs.set i v) := by
  refine ⟨by rw [List.length_set]; exact h.1, ?_⟩
  rcases h.2 with ⟨hv, _⟩ | ⟨g, cap, cur, hv, hbg, hg, hnc, hm, hcs, htake⟩
  · cases hv
  · injection hv with h1 _ h3
    injection h1 with h1
    injection h1 with h1 _ _
    subst h1; subst h3
    refine .inr ⟨gb, c, cur.setIfInBounds i v, rfl, hbg, row_set hg i v, hnc, hm, by simpa using hcs, ?_⟩
    rw [Array.toList_setIfInBounds, List.take_set, htake]

theorem wrap_div' (q s : Nat) (h : q ≤ 1000000) : IntKind.i64.wrap ((q / s : Nat) : Int) = ((q / s : Nat) : Int) := IntWalk.i64_in _ (by
  have hx : q / s ≤ q := Nat.div_le_self _ _
  generalize q / s = x at *
  omega)
set_option maxHeartbeats 1600000 in
theorem l1Put_any (A : Option Addr) (c cell : Nat) (b : UInt8) (g : List ByteArray) (w : World) (hr : Rd w w.heap.size A (sv g)) (hg : gridB g = true) (hc : cell < cellsN g) :
    Calls Try.prog 42 #[.slice A g.length c, .int .i64 cell, .int .u8 b.toNat] w (FreshS (gPut g cell b) w) := by
  obtain ⟨i0, hi, hz0, hz1, hz2⟩ := info_parts infoStr
  have hlen := grid_len hg
  have hwid := grid_width hg
  have hw0 := width_eq (g := g) (by omega)
  have hil : cell / width g < g.length := Nat.div_lt_of_lt_mul (by unfold cellsN at hc; rw [Nat.mul_comm]; exact hc)
  have HP := Lib.hid (put_set hg cell b hil)
  have hcc : cell % width g < g[cell / width g].size := by rw [grid_row hg]; exact Nat.mod_lt _ (by omega)
  have hs5 : g[cell / width g].size ≤ 5 := grid_small hg _ (List.getElem_mem _)
  have hcb := cellsN_le hg
  have hwr := wrap_div' cell (width g) (by omega)
  obtain ⟨hlen1, hlen2⟩ := hlen
  obtain ⟨b1, off1, rfl, hb1, hx⟩ := hr.at_ (sv_get g 0 (by omega))
  rw [Nat.add_zero] at hx
  have hxi := hr.cell (sv_get g _ hil)
  have hdiv : (cell : Int) / (g[0].size : Int) = ((cell / width g : Nat) : Int) := by rw [← hw0]; rfl
  have hmod : (cell : Int) % (g[0].size : Int) = ((cell % width g : Nat) : Int) := by rw [← hw0]; rfl
  have hne : ¬ (g[0].size = 0) := by omega
  have hs05 : g[0].size ≤ 5 := by omega
  have hcell25 : cell ≤ 25 := by omega
  have HN := Lib.hid hr
  generalize (g[cell / width g]'hil) = si at *
  generalize g[0] = s0 at *
  generalize cell % width g = cc at *
  generalize cell / width g = i at *
  have hgl : 0 < g.length := by omega
  have hiI : (i : Int) < (g.length : Int) := Int.ofNat_lt.2 hil
  have hcI : (cc : Int) < (si.size : Int) := Int.ofNat_lt.2 hcc
  clear hr hg hwid hw0 hc hcb
  go_enter Try.func42, Try.ntmps42
  go_wp2_with (at_builtin; refine wpList_append_own _ rfl _ _ 23 rfl w.heap.size 9 i0 (.string ⟨#[]⟩) 1 16 Try.underlying23 hi hz0 hz1 hz2 rfl (by decide) _ _ _ rfl (own_empty w 9) ⟨b1, off1, none⟩ g.length c (sv g) rfl (by rw [sv_length, Nat.mul_one]) (news_of_rd (HN.out.below (below_alloc1 w _))) (sv_one g) ?c3 ?c4 ?c5 ?_)
  case c3 => simp only [maxLen]; omega
  case c4 => omega
  case c5 => first | omega | (simp; omega) | simp
  intro v1 w2 hown1 hgrow1 _
  have HS2 := Lib.hid (below_grown (below_alloc1 w (.cells #[] 9)) hgrow1 (fun g hg => own_ge (own_empty w 9) g hg))
  have HO2 := Lib.hid (show w2.ownsRow w.heap.size 9 1 v1 g.length (sv g) by simpa using hown1)
  clear hown1 hgrow1
  obtain ⟨gb, cap1, rfl, hgb, hgbl⟩ := own_shape HO2.out (by omega)
  obtain ⟨w3, cap3, cs, hcv, hb3, hblk, hcsz, hcs⟩ := conv_text (P := Try.prog) w2 9 22 5 si Try.underlying9 Try.underlying22 Try.underlying5
  have hx2 := (HS2.out.cell (p := ⟨b1, off1, none⟩) hb1).trans hx
  have hxi2 := (HS2.out.cell (p := ⟨b1, off1 + i, none⟩) hb1).trans hxi
  have hb13 : b1 < w2.heap.size := Nat.lt_of_lt_of_le hb1 HS2.out.size
  have hx3 := (hb3.cell (p := ⟨b1, off1, none⟩) hb13).trans hx2
  have hcell3 : w3.cell? ⟨w2.heap.size, cc, none⟩ = some (.int .u8 si[cc].toNat) := by rw [cell_of_row _ _ _ _ _ _ hblk]; exact hcs cc hcc
  have hfr3 : w3.frozen? ⟨w2.heap.size, cc, none⟩ = false := by
    simp only [World.frozen?, hblk]
    simp; omega
  have hblk4 := row_set_fr hblk cc (.int .u8 b.toNat)
  have hrd4 : Rd (w3.setCell ⟨w2.heap.size, cc, none⟩ (.int .u8 b.toNat)) (w2.heap.size + 1) (some ⟨w2.heap.size, 0, none⟩) (bv (si.toList.set cc b)) := fun _ => by
    refine ⟨_, _, rfl, Nat.lt_succ_self _, fun j u hu => ?_⟩
    rw [Nat.zero_add, cell_of_row _ _ _ _ _ _ hblk4]
    have hj : j < si.size := by
      rcases Nat.lt_or_ge j si.size with h | h
      · exact h
      · rw [List.getElem?_eq_none (by rw [bv_length, List.length_set, toList_length]; exact h)] at hu; cases hu
    rw [bv_get _ _ (by rw [List.length_set, toList_length]; exact hj), List.getElem_set] at hu
    rw [← hu, Array.getElem?_setIfInBounds]
    by_cases e : cc = j
    · subst e; rw [if_pos rfl, if_pos rfl, if_pos (by omega)]
    · rw [if_neg e, if_neg e, hcs j hj, toList_get si j hj]
  have hcv4 := run_bytes_text (P := Try.prog) _ 22 9 5 Try.underlying22 Try.underlying5 Try.underlying9 _ cap3 _ _ hrd4
  rw [List.length_set, toList_length] at hcv4
  have hgne : gb ≠ w2.heap.size := by omega
  have HO3 := Lib.hid (own_keep HO2.out hb3)
  have HO4 : Hid ((w3.setCell ⟨w2.heap.size, cc, none⟩ (.int .u8 b.toNat)).ownsRow w.heap.size 9 1 (.slice (some ⟨gb, 0, none⟩) g.length cap1) g.length (sv g)) :=
    own_aside HO3.out _ _ (by simp [Value.ownBlock]; exact hgne)
  obtain ⟨u9, hu9⟩ : ∃ u9, (sv g)[i]? = some u9 := ⟨_, sv_get g i hil⟩
  have hc5 := (Rd.of_own HO4.out).cell hu9
  rw [Nat.zero_add] at hc5
  have hf5 : (w3.setCell ⟨w2.heap.size, cc, none⟩ (.int .u8 b.toNat)).frozen? ⟨gb, i, none⟩ = false := own_frozen HO4.out i
  have HB3 := Lib.hid hb3
  clear hblk hcs hrd4 hu9 hb3 hblk4
  go_wp2
  go_ret
  have hl : (gPut g cell b).length = g.length := mkG_length _ _ _
  refine ⟨some ⟨gb, 0, none⟩, cap1, by rw [hl]; rfl, ?_, ?_⟩
  · rw [hl, HP.out]
    have := own_set (i := i) (v := .string (bs (si.toList.set cc b))) HO4.out hil
    have e : sv (g.set i (bs (si.toList.set cc b))) = (sv g).set i (.string (bs (si.toList.set cc b))) := by simp [sv, List.map_set]
    rw [e]; exact this
  · exact ((below_next HS2.out HB3.out).setCell (by show w.heap.size ≤ w2.heap.size; exact HS2.out.size) _).setCell (by exact hgb) _

set_option maxHeartbeats 1600000 in
theorem sGridPut_any (A : Option Addr) (c : Nat) (g : List ByteArray) (cell : Int) (t : ByteArray) (w : World) (hr : Rd w w.heap.size A (sv g)) (hm : g.length ≤ maxLen) (hs : ∀ s ∈ g, s.size ≤ maxLen) (ht : t.size ≤ maxLen) :
    Calls Try.prog 14 #[.slice A g.length c, .int .i64 cell, .string t] w (FreshSB (putR g cell t) (putB g cell t) w) := by
  unfold maxLen at ht
  have HGi := Lib.hid (sGridIn_any A c g w _ hr hm hs)
  cases hg : gridB g
  · have HB2 := Lib.hid (show putB g cell t = false by unfold putB; rw [hg]; rfl)
    have H := Lib.hid (putR_no HB2.out)
    rw [hg] at HGi
    clear hg hm hs
    go_enter Try.func14, Try.ntmps14
    go_wp2_with fail
    refine HGi.out.mono ?_
    rintro e w1 ⟨rfl, hd⟩
    go_wp2_with fail
    refine (l1None_any _).mono ?_
    rintro e w2 ⟨A2, c2, rfl, ho, hb⟩
    go_wp2
    go_ret2
    rw [H.out, HB2.out]
    exact ⟨A2, c2, rfl, own_mono ho (hd.below 0).size, below_next (hd.below _) hb⟩
  · rw [hg] at HGi
    have HG := Lib.hid hg
    have hlen := grid_len hg
    have hwid := grid_width hg
    have hw0 := width_eq (g := g) (by omega)
    have hcl := cellsN_le hg
    have hmul := mul_bd (n := g.length) (m := g[0].size) (a := 5) (b := 5) hlen.2 (by omega)
    have HC := Lib.hid (show ((cellsN g : Nat) : Int) = (g.length : Int) * (g[0].size : Int) by unfold cellsN; rw [hw0, Int.natCast_mul])
    obtain ⟨b0, off, rfl, hb0, hc0⟩ := hr.at_ (sv_get g 0 (by omega))
    rw [Nat.add_zero] at hc0
    have hgl : 0 < g.length := by omega
    have hsz0 : g[0].size ≤ 5 := by omega
    generalize g[0] = s0 at *
    obtain ⟨hmul1, hmul2⟩ := hmul
    clear hw0 hm hs hwid
    cases h1 : inB cell 0 ((cellsN g : Int) - 1)
    · have HB2 := Lib.hid (show putB g cell t = false by unfold putB; rw [hg, h1]; rfl)
      have H := Lib.hid (putR_no HB2.out)
      have H1 := Lib.hid h1
      clear hg h1 hlen
      go_enter Try.func14, Try.ntmps14
      go_wp2_with fail
      refine HGi.out.mono ?_
      rintro e w0 ⟨rfl, hd⟩
      replace hc0 := (hd.below w.heap.size).cell (p := ⟨b0, off, none⟩) hb0 |>.trans hc0
      go_wp2_with fail
      rw [← HC.out]
      refine (l6In_b _ _ _ _ H1.out _).mono ?_
      rintro e w1 ⟨rfl, rfl⟩
      go_wp2_with fail
      refine (l1None_any _).mono ?_
      rintro e w2 ⟨A2, c2, rfl, ho, hb⟩
      go_wp2
      go_ret2
      rw [H.out, HB2.out]
      exact ⟨A2, c2, rfl, own_mono ho (hd.below 0).size, below_next (hd.below _) hb⟩
    · have H1 := Lib.hid h1
      by_cases h2 : t.size = 1
      · obtain ⟨bt, rfl⟩ := one_byte h2
        have HBT : Hid ((⟨#[bt]⟩ : ByteArray).toList.getD 0 0 = bt) := by simp [Hid, ByteArray.toList_eq]
        cases h3 : letterB bt
        · have HB2 := Lib.hid (show putB g cell ⟨#[bt]⟩ = false by unfold putB; rw [HBT.out, h3, Bool.and_false])
          have H := Lib.hid (putR_no HB2.out)
          have H3 := Lib.hid h3
          clear hg h1 h2 h3 hlen
          go_enter Try.func14, Try.ntmps14
          go_wp2_with fail
          refine HGi.out.mono ?_
          rintro e w0 ⟨rfl, hd⟩
          replace hc0 := (hd.below w.heap.size).cell (p := ⟨b0, off, none⟩) hb0 |>.trans hc0
          go_wp2_with fail
          rw [← HC.out]
          refine (l6In_b _ _ _ _ H1.out _).mono ?_
          rintro e w1 ⟨rfl, rfl⟩
          go_wp2_with fail
          refine (l1Letter_b _ _ H3.out _).mono ?_
          rintro e w1 ⟨rfl, rfl⟩
          go_wp2_with fail
          refine (l1None_any _).mono ?_
          rintro e w2 ⟨A2, c2, rfl, ho, hb⟩
          go_wp2
          go_ret2
          rw [H.out, HB2.out]
          exact ⟨A2, c2, rfl, own_mono ho (hd.below 0).size, below_next (hd.below _) hb⟩
        · have HB2 := Lib.hid (show putB g cell ⟨#[bt]⟩ = true by unfold putB; rw [HBT.out, h3, hg, h1]; rfl)
          have hq := inB_iff.1 h1
          obtain ⟨cell, rfl⟩ := Int.eq_ofNat_of_zero_le hq.1
          have hcc : cell < cellsN g := by omega
          have H := Lib.hid (show putR g cell ⟨#[bt]⟩ = gPut g cell bt by unfold putR; rw [HB2.out, HBT.out]; rfl)
          have H3 := Lib.hid h3
          clear hg h1 h2 h3 hq hlen
          go_enter Try.func14, Try.ntmps14
          go_wp2_with fail
          refine HGi.out.mono ?_
          rintro e w0 ⟨rfl, hd⟩
          replace hc0 := (hd.below w.heap.size).cell (p := ⟨b0, off, none⟩) hb0 |>.trans hc0
          go_wp2_with fail
          rw [← HC.out]
          refine (l6In_b _ _ _ _ H1.out _).mono ?_
          rintro e w1 ⟨rfl, rfl⟩
          go_wp2_with fail
          refine (l1Letter_b _ _ H3.out _).mono ?_
          rintro e w1 ⟨rfl, rfl⟩
          go_wp2_with fail
          refine (l1Put_any _ _ _ _ _ _ (hr.later (hd.below _)) HG.out hcc).mono ?_
          rintro e w2 ⟨A2, c2, rfl, ho, hb⟩
          go_wp2
          go_ret2
          rw [H.out, HB2.out]
          exact ⟨A2, c2, rfl, own_mono ho (hd.below 0).size, below_next (hd.below _) hb⟩
      · have HB2 := Lib.hid (show putB g cell t = false by unfold putB; rw [beq_eq_false_iff_ne.2 h2, Bool.and_false]; rfl)
        have H := Lib.hid (putR_no HB2.out)
        have h2b : ((t.size : Int) != 1) = true := by rw [bne_iff_ne]; omega
        clear hg h1 h2 hlen
        go_enter Try.func14, Try.ntmps14
        go_wp2_with fail
        refine HGi.out.mono ?_
        rintro e w0 ⟨rfl, hd⟩
        replace hc0 := (hd.below w.heap.size).cell (p := ⟨b0, off, none⟩) hb0 |>.trans hc0
        go_wp2_with fail
        rw [← HC.out]
        refine (l6In_b _ _ _ _ H1.out _).mono ?_
        rintro e w1 ⟨rfl, rfl⟩
        go_wp2_with fail
        refine (l1None_any _).mono ?_
        rintro e w2 ⟨A2, c2, rfl, ho, hb⟩
        go_wp2
        go_ret2
        rw [H.out, HB2.out]
        exact ⟨A2, c2, rfl, own_mono ho (hd.below 0).size, below_next (hd.below _) hb⟩
end Go.Proofs.Ythjllnabjnjpmaa
