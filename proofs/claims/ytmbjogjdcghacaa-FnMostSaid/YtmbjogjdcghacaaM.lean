/-
  CONTRACTS: GridOther, GridPut, GridFlip, GridTurn of the program.
-/
import Derived.Test.YtmbjogjdcghacaaJ
namespace Go.Proofs.Ytmbjogjdcghacaa
open Go.RowKit

def cellAt (g : List ByteArray) (r c : Nat) : UInt8 := (g.getD r ⟨#[]⟩).toList.getD c 0
theorem cellAt_eq {g : List ByteArray} {r c : Nat} (h1 : r < g.length) (h2 : c < g[r].size) : cellAt g r c = g[r][c] := by
  unfold cellAt
  simp only [List.getD_eq_getElem?_getD, List.getElem?_eq_getElem h1, Option.getD_some]
  rw [List.getElem?_eq_getElem (by rw [toList_length]; exact h2), toList_get _ c h2]
  rfl
def gOther (g : List ByteArray) : List ByteArray := mkG g.length (width g) fun r c => ex (cellAt g r c)
def gFlip (g : List ByteArray) : List ByteArray := mkG g.length (width g) fun r c => ex (cellAt g r (width g - 1 - c))
def gTurn (g : List ByteArray) : List ByteArray := mkG (width g) g.length fun r c => ex (cellAt g (g.length - 1 - c) r)
def gPut (g : List ByteArray) (cell : Nat) (b : UInt8) : List ByteArray := mkG g.length (width g) fun r c => if r * width g + c = cell then b else cellAt g r c
def orNone (b : Bool) (g : List ByteArray) : List ByteArray := if b then g else []
theorem orNone_yes (g : List ByteArray) : orNone true g = g := rfl
theorem orNone_no (g : List ByteArray) : orNone false g = [] := rfl

theorem below_of_old {w w0 w1 : World} {B k : Nat} (h0 : Below w.heap.size w w0) (hI : Old w0 B k w1) (hB : w.heap.size ≤ B) (hS : Str w0 w1) : Below w.heap.size w w1 :=
  h0.trans ⟨hS.os, hS.tape, hS.output, hS.size, fun j hj => hI j (by omega)⟩

theorem flip1_any (A : Option Addr) (cp bx by_ B : Nat) (g : List ByteArray) (w : World) (r c m x : Nat) (hbox : w.cell? ⟨bx, 0, none⟩ = some (.slice A g.length cp)) (hm : w.cell? ⟨by_, 0, none⟩ = some (.int .i64 m))
    (hr : Rd w B A (sv g)) (h1 : r < g.length) (_h3 : g.length ≤ 5) (hm5 : m ≤ 5) (hc5 : c < m) (hsub : (m : Int) - 1 - (c : Int) = (x : Int)) (hx : x < g[r].size) (hx5 : g[r].size ≤ 5) :
    Calls Try.prog 62 #[.int .i64 r, .int .i64 c, .pointer (some ⟨bx, 0, none⟩), .pointer (some ⟨by_, 0, none⟩)] w fun e w' => e = .returned (.int .u8 (ex (cellAt g r x)).toNat) ∧ Dr w w' := by
  obtain ⟨b, off, rfl, hb, hc⟩ := hr.at_ (sv_get g r h1)
  have HE := Lib.hid (cellAt_eq (c := x) h1 hx)
  have hx1 : (x : Int) < (g[r].size : Int) := by omega
  have hx0 : (0 : Int) ≤ (x : Int) := by omega
  have hr0 : (0 : Int) ≤ (r : Int) := by omega
  have hr1 : (r : Int) < (g.length : Int) := by omega
  have hw1 : IntKind.i64.wrap ((m : Int) - 1) = (m : Int) - 1 := IntWalk.i64_in _ (by omega)
  have hw2 : IntKind.i64.wrap (x : Int) = (x : Int) := IntWalk.i64_in _ (by omega)
  generalize g[r] = s at *
  clear hr
  go_enter Try.func62, Try.ntmps62
  go_wp2_with fail
  go_quiet ((go_at_call 61; refine qsame (exchanged_any _ _)))
  go_wp2
  go_ret
  exact ⟨by rw [HE.out]; rfl, (Dr.refl _).drewN _⟩
theorem turn1_any (A : Option Addr) (cp bx by_ B : Nat) (g : List ByteArray) (w : World) (r c n x : Nat) (hbox : w.cell? ⟨bx, 0, none⟩ = some (.slice A g.length cp)) (hm : w.cell? ⟨by_, 0, none⟩ = some (.int .i64 n))
    (hr : Rd w B A (sv g)) (h1 : x < g.length) (h3 : g.length ≤ 5) (hm5 : n ≤ 5) (hc5 : c < n) (hsub : (n : Int) - 1 - (c : Int) = (x : Int)) (hx : r < g[x].size) (_hx5 : g[x].size ≤ 5) :
    Calls Try.prog 60 #[.int .i64 r, .int .i64 c, .pointer (some ⟨bx, 0, none⟩), .pointer (some ⟨by_, 0, none⟩)] w fun e w' => e = .returned (.int .u8 (ex (cellAt g x r)).toNat) ∧ Dr w w' := by
  obtain ⟨b, off, rfl, hb, hc⟩ := hr.at_ (sv_get g x h1)
  have HE := Lib.hid (cellAt_eq (c := r) h1 hx)
  have hx1 : (r : Int) < (g[x].size : Int) := by omega
  have hx0 : (0 : Int) ≤ (x : Int) := by omega
  have hr0 : (0 : Int) ≤ (r : Int) := by omega
  have hr1 : (x : Int) < (g.length : Int) := by omega
  have hw1 : IntKind.i64.wrap ((n : Int) - 1) = (n : Int) - 1 := IntWalk.i64_in _ (by omega)
  have hw2 : IntKind.i64.wrap (x : Int) = (x : Int) := IntWalk.i64_in _ (by omega)
  generalize g[x] = s at *
  clear hr
  go_enter Try.func60, Try.ntmps60
  go_wp2_with fail
  refine (exchanged_any _ _).mono ?_
  rintro e w' ⟨rfl, rfl⟩
  go_wp2
  go_ret
  exact ⟨by rw [HE.out]; rfl, Dr.refl _⟩

set_option maxHeartbeats 800000 in
theorem iGridFlip_any (A : Option Addr) (c : Nat) (g : List ByteArray) (w : World) (hr : Rd w w.heap.size A (sv g)) (hm : g.length ≤ maxLen) (hs : ∀ s ∈ g, s.size ≤ maxLen) :
    Calls Try.prog 36 #[.slice A g.length c] w (FreshSB (orNone (gridB g) (gFlip g)) (gridB g) w) := by
  have hr1 := hr.below (below_alloc1 w (.cells #[.slice A g.length c] 25))
  have hG := iGridIn_any A c g _ _ hr1 hm hs
  cases hg : gridB g
  · rw [hg] at hG
    have HG := Lib.hid hG
    clear hg hG hm hs hr hr1
    go_enter Try.func36, Try.ntmps36
    go_wp2_with fail
    refine HG.out.mono ?_
    rintro e w' ⟨rfl, rfl⟩
    go_wp2
    go_ret2
    exact fresh_nil (below_alloc1 w _) (by simp)
  · rw [hg] at hG
    have HG := Lib.hid hG
    have HGG := Lib.hid hg
    have hlen := grid_len hg
    obtain ⟨hlen1, hlen2⟩ := hlen
    have hwid := grid_width hg
    have hw0 := width_eq (g := g) (by omega)
    obtain ⟨b, off, hA, hb, hc0⟩ := hr1.at_ (sv_get g 0 (by omega))
    subst hA
    rw [Nat.add_zero] at hc0
    have hsz : g[0].size ≤ 5 := by omega
    have HW := Lib.hid hw0
    have hgl : 0 < g.length := by omega
    generalize g[0] = s0 at *
    clear hg hG hm hs hr hw0 hwid
    go_enter Try.func36, Try.ntmps36
    go_wp2_with fail
    refine HG.out.mono ?_
    rintro e w' ⟨rfl, rfl⟩
    have hbox : (w.alloc (.cells #[.slice (some ⟨b, off, none⟩) g.length c] 25)).cell? ⟨w.heap.size, 0, none⟩ = some (.slice (some ⟨b, off, none⟩) g.length c) := by
      rw [cell_of_row _ w.heap.size 0 _ _ (0, 0) (heap_alloc_new w _)]; rfl
    have hbox2 : ((w.alloc (.cells #[.slice (some ⟨b, off, none⟩) g.length c] 25)).alloc (.cells #[.int .i64 s0.size] 3)).cell? ⟨w.heap.size, 0, none⟩ = some (.slice (some ⟨b, off, none⟩) g.length c) := by
      rw [World.cell?_alloc_lt _ _ _ (by simp)]; exact hbox
    have hmbox : ((w.alloc (.cells #[.slice (some ⟨b, off, none⟩) g.length c] 25)).alloc (.cells #[.int .i64 s0.size] 3)).cell? ⟨w.heap.size + 1, 0, none⟩ = some (.int .i64 s0.size) := by
      have hsz' : w.heap.size + 1 = (w.alloc (.cells #[.slice (some ⟨b, off, none⟩) g.length c] 25)).heap.size := by simp
      rw [hsz', cell_of_row _ _ 0 _ _ (0, 0) (heap_alloc_new _ _)]; rfl
    have hr2 := hr1.below ((below_alloc1 (w.alloc (.cells #[.slice (some ⟨b, off, none⟩) g.length c] 25)) (.cells #[.int .i64 s0.size] 3)).mono (by simp))
    go_wp2_with fail
    refine (makeGrid_any 62 #[.pointer (some ⟨w.heap.size, 0, none⟩), .pointer (some ⟨w.heap.size + 1, 0, none⟩)] _ g.length s0.size (fun r c => ex (cellAt g r (s0.size - 1 - c))) _ (w.heap.size + 2) (by omega) (by omega) (by simp)
      (clo_reads (w0 := (w.alloc (.cells #[.slice (some ⟨b, off, none⟩) g.length c] 25)).alloc (.cells #[.int .i64 s0.size] 3)) (call_enter Try.func62 (by kernel_rfl) rfl)
        (fun r c' w' hr hc hO => flip1_any _ c w.heap.size (w.heap.size + 1) w.heap.size g w' r c' s0.size (s0.size - 1 - c') ((hO.cell _ (by simp)).trans hbox2) ((hO.cell _ (by simp)).trans hmbox) (hr2.keep fun p hp => hO.cell p (by omega)) hr hlen2 hsz hc (by omega) (by rw [grid_row HGG.out, HW.out]; omega) (grid_small HGG.out _ (List.getElem_mem _)))) (fun _ _ => rfl)).mono ?_
    rintro e w1 ⟨A1, c1, rfl, ho, hI, hS⟩
    have hB := below_of_old ((below_alloc1 w _).alloc (by simp) _) hI (by omega) hS
    have HF := Lib.hid (show gFlip g = mkG g.length s0.size fun r c => ex (cellAt g r (s0.size - 1 - c)) by unfold gFlip; rw [HW.out])
    clear hI hS hbox hbox2 hmbox
    go_wp2
    go_ret2
    rw [orNone_yes, HF.out]
    have hl : (mkG g.length s0.size fun r c => ex (cellAt g r (s0.size - 1 - c))).length = g.length := mkG_length _ _ _
    exact ⟨A1, c1, by rw [hl]; rfl, by rw [hl]; exact own_mono ho (by omega), hB⟩

set_option maxHeartbeats 800000 in
theorem iGridTurn_any (A : Option Addr) (c : Nat) (g : List ByteArray) (w : World) (hr : Rd w w.heap.size A (sv g)) (hm : g.length ≤ maxLen) (hs : ∀ s ∈ g, s.size ≤ maxLen) :
    Calls Try.prog 35 #[.slice A g.length c] w (FreshSB (orNone (gridB g) (gTurn g)) (gridB g) w) := by
  have hr1 := hr.below (below_alloc1 w (.cells #[.slice A g.length c] 25))
  have hG := iGridIn_any A c g _ _ hr1 hm hs
  cases hg : gridB g
  · rw [hg] at hG
    have HG := Lib.hid hG
    clear hg hG hm hs hr hr1
    go_enter Try.func35, Try.ntmps35
    go_wp2_with fail
    refine HG.out.mono ?_
    rintro e w' ⟨rfl, rfl⟩
    go_wp2
    go_ret2
    exact fresh_nil (below_alloc1 w _) (by simp)
  · rw [hg] at hG
    have HG := Lib.hid hG
    have HGG := Lib.hid hg
    have hlen := grid_len hg
    obtain ⟨hlen1, hlen2⟩ := hlen
    have hwid := grid_width hg
    have hw0 := width_eq (g := g) (by omega)
    obtain ⟨b, off, hA, hb, hc0⟩ := hr1.at_ (sv_get g 0 (by omega))
    subst hA
    rw [Nat.add_zero] at hc0
    have hsz : g[0].size ≤ 5 := by omega
    have HW := Lib.hid hw0
    have hgl : 0 < g.length := by omega
    generalize g[0] = s0 at *
    clear hg hG hm hs hr hw0 hwid
    go_enter Try.func35, Try.ntmps35
    go_wp2_with fail
    refine HG.out.mono ?_
    rintro e w' ⟨rfl, rfl⟩
    have hbox : (w.alloc (.cells #[.slice (some ⟨b, off, none⟩) g.length c] 25)).cell? ⟨w.heap.size, 0, none⟩ = some (.slice (some ⟨b, off, none⟩) g.length c) := by
      rw [cell_of_row _ w.heap.size 0 _ _ (0, 0) (heap_alloc_new w _)]; rfl
    have hbox2 : ((w.alloc (.cells #[.slice (some ⟨b, off, none⟩) g.length c] 25)).alloc (.cells #[.int .i64 g.length] 3)).cell? ⟨w.heap.size, 0, none⟩ = some (.slice (some ⟨b, off, none⟩) g.length c) := by
      rw [World.cell?_alloc_lt _ _ _ (by simp)]; exact hbox
    have hmbox : ((w.alloc (.cells #[.slice (some ⟨b, off, none⟩) g.length c] 25)).alloc (.cells #[.int .i64 g.length] 3)).cell? ⟨w.heap.size + 1, 0, none⟩ = some (.int .i64 g.length) := by
      have hsz' : w.heap.size + 1 = (w.alloc (.cells #[.slice (some ⟨b, off, none⟩) g.length c] 25)).heap.size := by simp
      rw [hsz', cell_of_row _ _ 0 _ _ (0, 0) (heap_alloc_new _ _)]; rfl
    have hr2 := hr1.below ((below_alloc1 (w.alloc (.cells #[.slice (some ⟨b, off, none⟩) g.length c] 25)) (.cells #[.int .i64 g.length] 3)).mono (by simp))
    have hc2 := hr2.at_ (sv_get g 0 (by omega))
    have hc0' : ((w.alloc (.cells #[.slice (some ⟨b, off, none⟩) g.length c] 25)).alloc (.cells #[.int .i64 g.length] 3)).cell? ⟨b, off, none⟩ = some (.string s0) := by
      rw [World.cell?_alloc_lt _ _ _ (by simp; omega)]; exact hc0
    clear hc2
    go_wp2_with fail
    go_region_held3 (fun w' => w'.cell? ⟨w.heap.size, 0, none⟩ = some (.slice (some ⟨b, off, none⟩) g.length c) ∧ w'.cell? ⟨b, off, none⟩ = some (.string s0) ∧ w'.cell? ⟨w.heap.size + 1, 0, none⟩ = some (.int .i64 g.length))
      (first | go_keep | exact ⟨(Old.cell hI _ (by simp)).trans hbox2, (Old.cell hI _ (by simp; omega)).trans hc0', (Old.cell hI _ (by simp)).trans hmbox⟩)
      (first | (go_at_call 59; refine (makeGrid_any 60 #[.pointer (some ⟨w.heap.size, 0, none⟩), .pointer (some ⟨w.heap.size + 1, 0, none⟩)] _ s0.size g.length (fun r c => ex (cellAt g (g.length - 1 - c) r)) _ (w.heap.size + 2) (by omega) (by omega) (by simp) (clo_reads (w0 := ((w.alloc (.cells #[.slice (some ⟨b, off, none⟩) g.length c] 25)).alloc (.cells #[.int .i64 g.length] 3)).drew) (call_enter Try.func60 (by kernel_rfl) rfl) (fun r c' w' hr hc hO => turn1_any _ c w.heap.size (w.heap.size + 1) w.heap.size g w' r c' g.length (g.length - 1 - c') ((hO.cell _ (by simp)).trans hbox2) ((hO.cell _ (by simp)).trans hmbox) (hr2.keep fun p hp => hO.cell p (by omega)) (by omega) hlen2 hlen2 hc (by omega) (by rw [grid_row HGG.out, HW.out]; omega) (grid_small HGG.out _ (List.getElem_mem _)))) (fun _ _ => rfl)).mono ?_; rintro e w1 ⟨A1, c1, rfl, ho, hI, hS⟩))
    have hB := below_of_old (((below_alloc1 w _).alloc (by simp) _).drew) hI (by omega) hS
    have HF := Lib.hid (show gTurn g = mkG s0.size g.length fun r c => ex (cellAt g (g.length - 1 - c) r) by unfold gTurn; rw [HW.out])
    clear hI hS hbox hbox2 hmbox
    go_wp2
    go_ret2
    rw [orNone_yes, HF.out]
    have hl : (mkG s0.size g.length fun r c => ex (cellAt g (g.length - 1 - c) r)).length = s0.size := mkG_length _ _ _
    exact ⟨A1, c1, by rw [hl]; rfl, by rw [hl]; exact own_mono ho (by omega), hB⟩
end Go.Proofs.Ytmbjogjdcghacaa
