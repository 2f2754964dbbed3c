/-
  THE FRAME OF A LAW's ROW: arguments opened, and read again behind the call; a plain step from a walk to the row.
-/
import Derived.Test.YthjllnabjnjpmaaB
import Derived.ProofKit
import Derived.OpenShut
namespace Go.Proofs.Ythjllnabjnjpmaa
set_option maxRecDepth 100000
open Go.ChangeShapes Go.WideShapes Go.ChangeAt Go.RowKit
open Go.ChangeMaps (open_string)

theorem own_knob : ownKnob Try.prog.godebug = none := by kernel_rfl

theorem laid_out : laidOutB Try.prog = true := by kernel_rfl
theorem rd_I : Try.prog.readableRec 3 = true := by kernel_rfl
theorem rd_S : Try.prog.readableRec 23 = true := by kernel_rfl
theorem rd_T : Try.prog.readableRec 9 = true := by kernel_rfl
theorem rd_B : Try.prog.readableRec 22 = true := by kernel_rfl
theorem add_none (b off i : Nat) : (⟨b, off, none⟩ : Addr).add i = ⟨b, off + i, none⟩ := by
  unfold Addr.add; split
  · subst_vars; rfl
  · rfl

theorem cells_str : Try.prog.cellsOf 9 = 1 := by kernel_rfl
/-- a slice of texts that came in -/
theorem open_S {H : Type} {enc : TypeId × Value → H} {W : World} {base : Nat} {v : Value} {d : DataW H} {p : List MemPlace}
    (hok : Value.okWide Try.prog W .any base 23 v) (h : DataW.Trod enc Try.prog W 0 (fun _ => true) true 23 v d p) (hlt : ∀ x ∈ p, x.block < W.heap.size) :
    ∃ (A : Option Addr) (c : Nat) (g : List ByteArray), v = .slice A g.length c ∧ Rd W W.heap.size A (sv g) ∧ g.length ≤ maxLen ∧ (∀ s ∈ g, s.size ≤ maxLen) := by
  obtain ⟨a0, len, cap, rfl⟩ := okWide_slice Try.underlying23 hok
  obtain ⟨fuel, hf⟩ := h
  rcases open_strings Try.underlying23 Try.underlying9 cells_str hf with ⟨hcs, hx⟩ | ⟨a, len', cap', ss, hcs, _, hl, hm, hz, hx, hcell, hws⟩
  · simp [Value.cells] at hcs
    obtain ⟨rfl, rfl, rfl⟩ := hcs
    exact ⟨none, 0, [], rfl, fun h => absurd h (by simp [sv]), by simp [maxLen], by simp⟩
  · simp [Value.cells] at hcs
    obtain ⟨rfl, rfl, rfl⟩ := hcs
    simp only [Prod.mk.injEq] at hx
    obtain ⟨rfl, rfl⟩ := hx
    simp only [if_true] at hz
    have hgl : (ss.take len).length = len := by rw [List.length_take]; omega
    refine ⟨some a, cap, ss.take len, by rw [hgl], fun hpos => ?_, by rw [hgl]; omega, fun s hs => hws s (List.mem_of_mem_take hs)⟩
    rw [sv_length, hgl] at hpos
    obtain ⟨b, off, spot⟩ := a
    have hspot : spot = none := by simpa [Addr.add] using World.cell?_spot (hcell 0 (by omega))
    subst hspot
    refine ⟨b, off, rfl, hlt (.cell b off) (MemPlace.mem_row.2 ⟨0, by omega, by simp⟩), fun i u hu => ?_⟩
    have hi : i < len := by
      rcases Nat.lt_or_ge i len with hi | hi
      · exact hi
      · rw [List.getElem?_eq_none (by rw [sv_length, hgl]; exact hi)] at hu; cases hu
    rw [← add_none, hcell i (by omega)]
    have hi' : i < (ss.take len).length := by omega
    rw [sv_get _ i hi'] at hu
    injection hu with hu
    rw [← hu, List.getD_eq_getElem?_getD, List.getElem?_eq_getElem (by omega), List.getElem_take]
    rfl
/-- an int that came in -/
theorem open_I {H : Type} {enc : TypeId × Value → H} {W : World} {base : Nat} {v : Value} {d : DataW H} {p : List MemPlace}
    (hok : Value.okWide Try.prog W .any base 3 v) (h : DataW.Trod enc Try.prog W 0 (fun _ => true) true 3 v d p) :
    ∃ n : Int, v = .int .i64 n ∧ -9223372036854775808 ≤ n ∧ n ≤ 9223372036854775807 := by
  obtain ⟨n, rfl, _, _, wn⟩ := open_int Try.underlying3 hok h
  exact ⟨n, rfl, (bounds_i64 wn).1, (bounds_i64 wn).2⟩
/-- a text that came in -/
theorem open_T {H : Type} {enc : TypeId × Value → H} {W : World} {base : Nat} {v : Value} {d : DataW H} {p : List MemPlace}
    (hok : Value.okWide Try.prog W .any base 9 v) (h : DataW.Trod enc Try.prog W 0 (fun _ => true) true 9 v d p) :
    ∃ s : ByteArray, v = .string s ∧ s.size ≤ maxLen := by
  obtain ⟨s, rfl, _, _, hs⟩ := open_string Try.underlying9 hok h
  exact ⟨s, rfl, hs⟩
end Go.Proofs.Ythjllnabjnjpmaa
