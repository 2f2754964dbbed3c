/-
  A LAW'S CODE OPENED; CONTRACTS OF THE DRAWN GRIDS.
-/
import Derived.Test.YthjllnabjnjpmaaW
import Derived.Test.YthjllnabjnjpmaaD
namespace Go.Proofs.Ythjllnabjnjpmaa
set_option maxRecDepth 100000
open Go.ChangeShapes Go.WideShapes Go.ChangeAt Go.RowKit

theorem cells_u8 : Try.prog.cellsOf 5 = 1 := by kernel_rfl
theorem bv_len (l : List UInt8) : (bv l).length = l.length := List.length_map ..
/-- a slice of bytes that came in -/
theorem open_B {H : Type} {enc : TypeId × Value → H} {W : World} {base : Nat} {v : Value} {d : DataW H} {p : List MemPlace}
    (hok : Value.okWide Try.prog W .any base 22 v) (h : DataW.Trod enc Try.prog W 0 (fun _ => true) true 22 v d p) (hlt : ∀ x ∈ p, x.block < W.heap.size) :
    ∃ (A : Option Addr) (c : Nat) (l : List UInt8), v = .slice A l.length c ∧ Rd W W.heap.size A (bv l) ∧ (l.length ≤ c ∧ l.length ≤ maxLen) := by
  obtain ⟨a0, len, cap, rfl⟩ := okWide_slice Try.underlying22 hok
  obtain ⟨fuel, hf⟩ := h
  rcases open_ints Try.underlying22 Try.underlying5 cells_u8 hf with ⟨hcs, hx⟩ | ⟨a, len', cap', ss, hcs, _, hl, hm, hz, hx, hcell, hws⟩
  · simp [Value.cells] at hcs
    obtain ⟨rfl, rfl, rfl⟩ := hcs
    exact ⟨none, 0, [], rfl, fun h => absurd h (by simp [bv]), by simp [maxLen]⟩
  · simp [Value.cells] at hcs
    obtain ⟨rfl, rfl, rfl⟩ := hcs
    simp only [Prod.mk.injEq] at hx
    obtain ⟨rfl, rfl⟩ := hx
    simp only [if_true] at hz
    have hgl : ((ss.take len).map fun z => UInt8.ofNat z.toNat).length = len := by rw [List.length_map, List.length_take]; omega
    refine ⟨some a, cap, (ss.take len).map fun z => UInt8.ofNat z.toNat, by rw [hgl], fun hpos => ?_, by rw [hgl]; omega⟩
    rw [bv_len, hgl] at hpos
    obtain ⟨b, off, spot⟩ := a
    have hspot : spot = none := by simpa [Addr.add] using World.cell?_spot (hcell 0 (by omega))
    subst hspot
    refine ⟨b, off, rfl, hlt (.cell b off) (MemPlace.mem_row.2 ⟨0, by omega, by simp⟩), fun i u hu => ?_⟩
    have hi : i < len := by
      rcases Nat.lt_or_ge i len with hi | hi
      · exact hi
      · rw [List.getElem?_eq_none (by rw [bv_len, hgl]; exact hi)] at hu; cases hu
    rw [← add_none, hcell i (by omega)]
    rw [bv_get _ i (by omega)] at hu
    injection hu with hu
    rw [← hu, List.getD_eq_getElem?_getD, List.getElem?_eq_getElem (by omega), List.getElem_map, List.getElem_take]
    have hw := hws ss[i] (List.getElem_mem _)
    simp only [Lit.wf, decide_eq_true_eq, Bool.and_eq_true] at hw
    have h0 : 0 ≤ ss[i] ∧ ss[i] ≤ 255 := by
      have e1 : IntKind.u8.min = 0 := by decide
      have e2 : IntKind.u8.max = 255 := by decide
      rw [e1, e2] at hw
      exact hw
    clear hw
    show some (Value.int .u8 ss[i]) = some (Value.int .u8 _)
    have : ((UInt8.ofNat ss[i].toNat).toNat : Int) = ss[i] := by
      rw [UInt8.toNat_ofNat']; omega
    rw [this]
/-- a grid has been drawn: texts, not none, none of them empty -/
def DrawG (lo hi mx : Nat) (w : World) (e : Ending) (w' : World) : Prop :=
  ∃ (g : List ByteArray) (A : Option Addr) (c : Nat), e = .returned (.slice A g.length c) ∧ Rd w' w'.heap.size A (sv g) ∧ lo ≤ g.length ∧ g.length ≤ hi ∧ (∀ s ∈ g, 1 ≤ s.size ∧ s.size ≤ mx) ∧ Below w.heap.size w w' ∧ g.length ≤ c







end Go.Proofs.Ythjllnabjnjpmaa
