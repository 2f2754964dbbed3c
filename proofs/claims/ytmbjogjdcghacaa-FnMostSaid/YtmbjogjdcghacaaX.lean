/-
  A LAW'S CODE OPENED; CONTRACTS OF THE DRAWN GRIDS.
-/
import Derived.Test.YtmbjogjdcghacaaW
import Derived.Test.YtmbjogjdcghacaaD
namespace Go.Proofs.Ytmbjogjdcghacaa
open Go.ChangeShapes Go.WideShapes Go.ChangeAt Go.RowKit

theorem cells_u8 : Try.prog.cellsOf 5 = 1 := by kernel_rfl
theorem bv_len (l : List UInt8) : (bv l).length = l.length := List.length_map ..
/-- a slice of bytes that came in -/
theorem open_B {H : Type} {enc : TypeId × Value → H} {W : World} {base : Nat} {v : Value} {d : DataW H} {p : List MemPlace}
    (hok : Value.okWide Try.prog W .any base 33 v) (h : DataW.Trod enc Try.prog W 0 (fun _ => true) true 33 v d p) (hlt : ∀ x ∈ p, x.block < W.heap.size) :
    ∃ (A : Option Addr) (c : Nat) (l : List UInt8), v = .slice A l.length c ∧ Rd W W.heap.size A (bv l) ∧ (l.length ≤ c ∧ l.length ≤ maxLen) := by
  obtain ⟨a0, len, cap, rfl⟩ := okWide_slice Try.underlying33 hok
  obtain ⟨fuel, hf⟩ := h
  rcases open_ints Try.underlying33 Try.underlying5 cells_u8 hf with ⟨hcs, hx⟩ | ⟨a, len', cap', ss, hcs, _, hl, hm, hz, hx, hcell, hws⟩
  · simp [Value.cells] at hcs
    obtain ⟨rfl, rfl, rfl⟩ := hcs
    exact ⟨none, 0, [], rfl, fun h => absurd h (by simp [bv]), by simp [maxLen]⟩
  · simp [Value.cells] at hcs
    obtain ⟨rfl, rfl, rfl⟩ := hcs
    simp only [Prod.mk.injEq] at hx
    obtain ⟨rfl, rfl⟩ := hx
    simp only [if_true] at hz
    have hgl : ((ss.take len).map fun z => UInt8.ofNat z.toNat).length = len := by rw [List.length_map, List.length_take]; omega
    refine ⟨some a, cap, (ss.take len).map fun z => UInt8.ofNat z.toNat, by rw [hgl], fun hpos => ?_, by rw [hgl]; omega⟩
    rw [bv_len, hgl] at hpos
    obtain ⟨b, off, spot⟩ := a
    have hspot : spot = none := by simpa [Addr.add] using World.cell?_spot (hcell 0 (by omega))
    subst hspot
    refine ⟨b, off, rfl, hlt (.cell b off) (MemPlace.mem_row.2 ⟨0, by omega, by simp⟩), fun i u hu => ?_⟩
    have hi : i < len := by
      rcases Nat.lt_or_ge i len with hi | hi
      · exact hi
      · rw [List.getElem?_eq_none (by rw [bv_len, hgl]; exact hi)] at hu; cases hu
    rw [← add_none, hcell i (by omega)]
    rw [bv_get _ i (by omega)] at hu
    injection hu with hu
    rw [← hu, List.getD_eq_getElem?_getD, List.getElem?_eq_getElem (by omega), List.getElem_map, List.getElem_take]
    have hw := hws ss[i] (List.getElem_mem _)
    simp only [Lit.wf, decide_eq_true_eq, Bool.and_eq_true] at hw
    have h0 : 0 ≤ ss[i] ∧ ss[i] ≤ 255 := by
      have e1 : IntKind.u8.min = 0 := by decide
      have e2 : IntKind.u8.max = 255 := by decide
      rw [e1, e2] at hw
      exact hw
    clear hw
    show some (Value.int .u8 ss[i]) = some (Value.int .u8 _)
    have : ((UInt8.ofNat ss[i].toNat).toNat : Int) = ss[i] := by
      rw [UInt8.toNat_ofNat']; omega
    rw [this]
/-- a grid has been drawn: texts, not none, none of them empty -/
def DrawG (lo hi mx : Nat) (w : World) (e : Ending) (w' : World) : Prop :=
  ∃ (g : List ByteArray) (A : Option Addr) (c : Nat), e = .returned (.slice A g.length c) ∧ Rd w' w'.heap.size A (sv g) ∧ lo ≤ g.length ∧ g.length ≤ hi ∧ (∀ s ∈ g, 1 ≤ s.size ∧ s.size ≤ mx) ∧ Below w.heap.size w w' ∧ g.length ≤ c
theorem l91One_any (l : List UInt8) (A : Option Addr) (c : Nat) (w : World) (hl : Rd w w.heap.size A (bv l)) (hm : l.length ≤ c ∧ l.length ≤ maxLen) :
    Calls Try.prog 54 #[.slice A l.length c] w (DrawG 1 4 5 w) := by
  go_enter Try.func54, Try.ntmps54
  go_wp2_with fail
  refine (l6Open_any l A c w.heap.size _ hl (Nat.le_refl _) hm.1 hm.2).mono ?_
  rintro e w1 ⟨l1, A1, c1, rfl, hll, hr1, hl1, hg1⟩
  clear hl
  go_wp2_with fail
  refine (l91Some_any l1 A1 c1 w.heap.size 0 w.heap.size 4 4 _ hr1 hl1 (Nat.le_refl _) (by omega) hll (by omega) (by omega)).mono ?_
  rintro e w2 ⟨g, A2, c2, p2, rfl, hown, hlo, hhi, hsz, hr2, hp2, hg2⟩
  have hb := ((Below.refl w.heap.size w).grown hg1 (Nat.le_refl _) (fun k hk => by cases hk)).grown hg2 hg1.size (fun k hk => by injection hk with hk; omega)
  clear hr1 hl1 hr2 hg1 hg2
  have HO := Lib.hid hown
  clear hown
  go_wp2
  go_ret
  exact ⟨g, A2, c2, rfl, Rd.of_own HO.out, hlo, hhi, fun s hs => hsz s hs, hb, (own_cap HO.out).1⟩







end Go.Proofs.Ytmbjogjdcghacaa
