/-
  CONTRACTS: sameTexts.
-/
import Derived.Test.YthjllnabjnjpmaaX
import Derived.Test.YthjllnabjnjpmaaY
import Derived.Test.YthjllnabjnjpmaaN
namespace Go.Proofs.Ythjllnabjnjpmaa
set_option maxRecDepth 100000
open Go.RowKit

set_option maxHeartbeats 400000 in
theorem sameTexts_any (A B : Option Addr) (c d : Nat) (g h : List ByteArray) (w : World) (BA BB : Nat) (hA : Rd w BA A (sv g)) (hB : Rd w BB B (sv h)) (hm : g.length ≤ maxLen) (hm' : h.length ≤ maxLen) :
    Calls Try.prog 11 #[.slice A g.length c, .slice B h.length d] w fun e w' => e = .returned (.bool (decide (g = h))) ∧ Dr w w' := by
  unfold maxLen at hm hm'
  by_cases hl : g.length = h.length
  · have hlb : ((g.length : Int) != (h.length : Int)) = false := by rw [hl]; simp
    have HL := Lib.hid hl; clear hl
    go_enter Try.func11, Try.ntmps11
    go_wp2
    go_loopw [5] (fun i wr => ∃ k n : Nat, k ≤ g.length ∧ i = .int .i64 k ∧ Hid (g.take k = h.take k) ∧ wr = w.drewN n) (fun i _ => g.length - (intOf i).toNat)
    case atStart => exact ⟨0, 0, Nat.zero_le _, rfl, rfl, rfl⟩
    case round =>
      obtain ⟨k, n, hk, rfl, HE, rfl⟩ := hrel
      by_cases hlt : k < g.length
      · have hlt' : k < h.length := by have := HL.out; omega
        obtain ⟨b, off, rfl, hb, hc⟩ := hA.at_ (sv_get g k hlt)
        obtain ⟨b', off', rfl, hb', hc'⟩ := hB.at_ (sv_get h k hlt')
        clear hA hB
        by_cases he : g[k] = h[k]
        · have heb : (g[k].toList == h[k].toList) = true := by rw [he]; simp
          have HE2 := Lib.hid (take_snoc_eq g h k hlt hlt' HE.out he)
          clear he
          go_wp2
          go_quiet (fail)
          go_wp2
          go_roundw
          case rel => exact ⟨k + 1, _, by omega, by go_num, HE2, rfl⟩
          case measure => simp [intOf]; omega
        · have heb : (g[k].toList == h[k].toList) = false := by rw [toList_beq]; exact decide_eq_false he
          have HN := Lib.hid (ne_of_get g h k hlt hlt' he)
          clear he
          go_wp2
          go_quiet (fail)
          go_wp2
          go_ret
          exact ⟨by rw [decide_eq_false HN.out]; rfl, (Dr.refl _).drewN _ |>.drewN _⟩
      · have hk' : g.length = k := by omega
        have HEQ := Lib.hid (take_eq_of k g h hk' (by have := HL.out; omega) HE.out)
        clear hA hB hk'
        go_wp2
        go_ret
        exact ⟨by rw [decide_eq_true HEQ.out]; rfl, (Dr.refl _).drewN _⟩
  · have hlb : ((g.length : Int) != (h.length : Int)) = true := by rw [bne_iff_ne]; omega
    have HN := Lib.hid (show g ≠ h from by rintro rfl; exact hl rfl)
    clear hl hA hB
    go_enter Try.func11, Try.ntmps11
    go_wp2
    go_ret
    exact ⟨by rw [decide_eq_false HN.out]; rfl, 0, rfl⟩
theorem sameTexts_same (A B : Option Addr) (c d : Nat) (g : List ByteArray) (w : World) (BA BB : Nat) (hA : Rd w BA A (sv g)) (hB : Rd w BB B (sv g)) (hm : g.length ≤ maxLen) :
    Calls Try.prog 11 #[.slice A g.length c, .slice B g.length d] w fun e w' => e = .returned (.bool true) ∧ Dr w w' :=
  (sameTexts_any A B c d g g w BA BB hA hB hm hm).mono fun _ _ ⟨he, hd⟩ => ⟨by rw [he, decide_eq_true rfl], hd⟩
/-- a grid, or none, is small -/
theorem small_of {R : List ByteArray} (h : R = [] ∨ gridB R = true) : R.length ≤ maxLen ∧ ∀ s ∈ R, s.size ≤ maxLen := by
  rcases h with rfl | h
  · exact ⟨by simp [maxLen], fun s hs => by cases hs⟩
  · have := grid_len h
    exact ⟨by unfold maxLen; omega, fun s hs => by have := grid_small h s hs; unfold maxLen; omega⟩
end Go.Proofs.Ythjllnabjnjpmaa
