/-
  CONTRACTS: eqIntS, sameInts, markIntS, heldIntS: lists of numbers.
-/
import Derived.Test.YtfiaidphcecnhaaE
namespace Go.Proofs.Ytfiaidphcecnhaa
open Go.RowKit

theorem int_bne_no {a b : Int} (h : a = b) : (a != b) = false := by rw [h]; simp
theorem int_bne_yes {a b : Int} (h : a ≠ b) : (a != b) = true := by rw [bne_iff_ne]; exact h
set_option maxHeartbeats 400000 in
theorem eqIntS_any (A B : Option Addr) (c d : Nat) (g h : List Int) (w : World) (BA BB : Nat) (hA : Rd w BA A (iv g)) (hB : Rd w BB B (iv h)) (hm : g.length ≤ maxLen) (hm' : h.length ≤ maxLen) :
    Calls Try.prog 19 #[.slice A g.length c, .slice B h.length d] w fun e w' => e = .returned (.bool (decide (g = h))) ∧ Dr w w' := by
  unfold maxLen at hm hm'
  by_cases hl : g.length = h.length
  · have hlb : ((g.length : Int) != (h.length : Int)) = false := by rw [hl]; simp
    have HL := Lib.hid hl; clear hl
    go_enter Try.func19, Try.ntmps19
    go_wp2
    go_loopw [5] (fun i wr => ∃ k n : Nat, k ≤ g.length ∧ i = .int .i64 k ∧ Hid (g.take k = h.take k) ∧ wr = w.drewN n) (fun i _ => g.length - (intOf i).toNat)
    case atStart => exact ⟨0, 0, Nat.zero_le _, rfl, rfl, rfl⟩
    case round =>
      obtain ⟨k, n, hk, rfl, HE, rfl⟩ := hrel
      by_cases hlt : k < g.length
      · have hlt' : k < h.length := by have := HL.out; omega
        obtain ⟨b, off, rfl, hb, hc⟩ := hA.at_ (iv_get g k hlt)
        obtain ⟨b', off', rfl, hb', hc'⟩ := hB.at_ (iv_get h k hlt')
        clear hA hB
        by_cases he : g[k] = h[k]
        · have heb := int_bne_no he
          have HE2 := Lib.hid (take_snoc_eq g h k hlt hlt' HE.out he)
          clear he
          go_wp2
          go_quiet (fail)
          go_wp2
          go_roundw
          case rel => exact ⟨k + 1, _, by omega, by go_num, HE2, rfl⟩
          case measure => simp [intOf]; omega
        · have heb := int_bne_yes he
          have HN := Lib.hid (ne_of_get g h k hlt hlt' he)
          clear he
          go_wp2
          go_quiet (fail)
          go_wp2
          go_ret
          exact ⟨by rw [decide_eq_false HN.out]; rfl, (Dr.refl _).drewN _ |>.drewN _⟩
      · have hk' : g.length = k := by omega
        have HEQ := Lib.hid (take_eq_of k g h hk' (by have := HL.out; omega) HE.out)
        clear hA hB hk'
        go_wp2
        go_ret
        exact ⟨by rw [decide_eq_true HEQ.out]; rfl, (Dr.refl _).drewN _⟩
  · have hlb : ((g.length : Int) != (h.length : Int)) = true := by rw [bne_iff_ne]; omega
    have HN := Lib.hid (show g ≠ h from by rintro rfl; exact hl rfl)
    clear hl hA hB
    go_enter Try.func19, Try.ntmps19
    go_wp2
    go_ret
    exact ⟨by rw [decide_eq_false HN.out]; rfl, 0, rfl⟩
theorem eqIntS_same (A B : Option Addr) (c d : Nat) (g : List Int) (w : World) (BA BB : Nat) (hA : Rd w BA A (iv g)) (hB : Rd w BB B (iv g)) (hm : g.length ≤ maxLen) :
    Calls Try.prog 19 #[.slice A g.length c, .slice B g.length d] w fun e w' => e = .returned (.bool true) ∧ Dr w w' :=
  (eqIntS_any A B c d g g w BA BB hA hB hm hm).mono fun _ _ ⟨he, hd⟩ => ⟨by rw [he, decide_eq_true rfl], hd⟩
set_option maxHeartbeats 400000 in
theorem sameInts_any (A B : Option Addr) (c d : Nat) (g h : List Int) (w : World) (BA BB : Nat) (hA : Rd w BA A (iv g)) (hB : Rd w BB B (iv h)) (hm : g.length ≤ maxLen) (hm' : h.length ≤ maxLen) :
    Calls Try.prog 35 #[.slice A g.length c, .slice B h.length d] w fun e w' => e = .returned (.bool (decide (g = h))) ∧ Dr w w' := by
  unfold maxLen at hm hm'
  by_cases hl : g.length = h.length
  · have hlb : ((g.length : Int) != (h.length : Int)) = false := by rw [hl]; simp
    have HL := Lib.hid hl; clear hl
    go_enter Try.func35, Try.ntmps35
    go_wp2
    go_loopw [5] (fun i wr => ∃ k n : Nat, k ≤ g.length ∧ i = .int .i64 k ∧ Hid (g.take k = h.take k) ∧ wr = w.drewN n) (fun i _ => g.length - (intOf i).toNat)
    case atStart => exact ⟨0, 0, Nat.zero_le _, rfl, rfl, rfl⟩
    case round =>
      obtain ⟨k, n, hk, rfl, HE, rfl⟩ := hrel
      by_cases hlt : k < g.length
      · have hlt' : k < h.length := by have := HL.out; omega
        obtain ⟨b, off, rfl, hb, hc⟩ := hA.at_ (iv_get g k hlt)
        obtain ⟨b', off', rfl, hb', hc'⟩ := hB.at_ (iv_get h k hlt')
        clear hA hB
        by_cases he : g[k] = h[k]
        · have heb := int_bne_no he
          have HE2 := Lib.hid (take_snoc_eq g h k hlt hlt' HE.out he)
          clear he
          go_wp2
          go_quiet (fail)
          go_wp2
          go_roundw
          case rel => exact ⟨k + 1, _, by omega, by go_num, HE2, rfl⟩
          case measure => simp [intOf]; omega
        · have heb := int_bne_yes he
          have HN := Lib.hid (ne_of_get g h k hlt hlt' he)
          clear he
          go_wp2
          go_quiet (fail)
          go_wp2
          go_ret
          exact ⟨by rw [decide_eq_false HN.out]; rfl, (Dr.refl _).drewN _ |>.drewN _⟩
      · have hk' : g.length = k := by omega
        have HEQ := Lib.hid (take_eq_of k g h hk' (by have := HL.out; omega) HE.out)
        clear hA hB hk'
        go_wp2
        go_ret
        exact ⟨by rw [decide_eq_true HEQ.out]; rfl, (Dr.refl _).drewN _⟩
  · have hlb : ((g.length : Int) != (h.length : Int)) = true := by rw [bne_iff_ne]; omega
    have HN := Lib.hid (show g ≠ h from by rintro rfl; exact hl rfl)
    clear hl hA hB
    go_enter Try.func35, Try.ntmps35
    go_wp2
    go_ret
    exact ⟨by rw [decide_eq_false HN.out]; rfl, 0, rfl⟩
theorem sameInts_same (A B : Option Addr) (c d : Nat) (g : List Int) (w : World) (BA BB : Nat) (hA : Rd w BA A (iv g)) (hB : Rd w BB B (iv g)) (hm : g.length ≤ maxLen) :
    Calls Try.prog 35 #[.slice A g.length c, .slice B g.length d] w fun e w' => e = .returned (.bool true) ∧ Dr w w' :=
  (sameInts_any A B c d g g w BA BB hA hB hm hm).mono fun _ _ ⟨he, hd⟩ => ⟨by rw [he, decide_eq_true rfl], hd⟩
def imarks (n k : Nat) : List Int := (List.range n).map fun i => ((k + i : Nat) : Int)
theorem imarks_length (n k : Nat) : (imarks n k).length = n := by simp [imarks]
theorem imarks_succ (n k : Nat) : imarks (n + 1) k = imarks n k ++ [((k + n : Nat) : Int)] := by simp [imarks, List.range_succ]
set_option maxHeartbeats 400000 in
theorem markIntS_any (A : Option Addr) (c : Nat) (g : List Int) (k : Nat) (w : World) (base : Nat) (ho : w.ownsRow base 3 1 (.slice A g.length c) g.length (iv g)) (hk : k + g.length ≤ 4000000) :
    Calls Try.prog 22 #[.slice A g.length c, .int .i64 k] w fun e w' => e = .returned (.int .i64 (k + g.length : Nat)) ∧
      w'.ownsRow base 3 1 (.slice A g.length c) g.length (iv (imarks g.length k)) ∧ w.grownBy w' (Value.slice A g.length c).ownBlock := by
  rcases ho.2 with ⟨hv, h0⟩ | ⟨b, cap, cur, hv, hbg, hg, hnc, hcm, hcs, htake⟩
  · injection hv with hA hn hc
    have hg0 : g = [] := List.eq_nil_of_length_eq_zero hn
    subst hg0; subst hA; subst hc
    clear ho hk
    go_enter Try.func22, Try.ntmps22
    go_wp2
    go_loop [1, 5] (fun t i => t = .int .i64 k ∧ i = .int .i64 0) (fun t i => 0)
    case atStart => exact ⟨rfl, rfl⟩
    case round =>
      obtain ⟨rfl, rfl⟩ := hrel
      go_wp2
      go_ret
      exact ⟨rfl, ⟨by simp [iv, imarks], Or.inl ⟨rfl, rfl⟩⟩, World.grownBy.refl _ _⟩
  · injection hv with hA hn hc
    subst hA; subst hc
    clear ho
    have hn : g.length ≤ 4000000 := by omega
    go_enter Try.func22, Try.ntmps22
    go_wp2
    go_loopw [1, 5] (fun t i wr => ∃ (j : Nat) (cs : Array Value), j ≤ g.length ∧ i = .int .i64 j ∧ t = .int .i64 (k + j : Nat) ∧ Hid (wr.heap[b]? = some (.cells cs 3 (0, 0))) ∧ Hid (cs.size = c) ∧
        Hid (cs.toList.take j = iv (imarks j k)) ∧ Hid (w.grownBy wr (some b))) (fun _ i _ => g.length - (intOf i).toNat)
    case atStart => exact ⟨0, cur, Nat.zero_le _, rfl, rfl, hg, by simp [Hid, hcs], by simp [Hid, imarks, iv], World.grownBy.refl _ _⟩
    case round =>
      obtain ⟨j, cs, hj, rfl, rfl, H1, H2, H3, H4⟩ := hrel
      by_cases hlt : j < g.length
      · clear hg htake
        have hjs : j < cs.size := by rw [H2.out]; omega
        have hc2 := row_cell H1.out j hjs
        have hf2 := row_frozen H1.out j
        have H3' := Lib.hid (show (cs.setIfInBounds j (.int .i64 ((k + j : Nat) : Int))).toList.take (j + 1) = iv (imarks (j + 1) k) by
          rw [row_take_set hjs, H3.out, imarks_succ, iv_snoc])
        go_wp2
        go_roundw
        case rel => exact ⟨j + 1, _, by omega, by go_num, by go_num, row_set H1.out _ _, (by simp [Hid]; exact H2.out), H3'.out, grown_set H4.out _ _⟩
        case measure => simp [intOf]; omega
      · obtain rfl : j = g.length := by omega
        clear hg htake
        go_wp2
        go_ret
        refine ⟨rfl, ⟨by simp [iv, imarks], .inr ⟨b, c, cs, rfl, hbg, H1.out, hnc, hcm, by rw [H2.out]; simp, by rw [Nat.mul_one]; exact H3.out⟩⟩, H4.out⟩
set_option maxHeartbeats 800000 in
theorem heldIntS_any (A : Option Addr) (c n k : Nat) (w : World) (B : Nat) (hr : Rd w B A (iv (imarks n k))) (hk : k + n ≤ 4000000) :
    Calls Try.prog 23 #[.slice A n c, .int .i64 k] w fun e w' => e = .returned (.int .i64 (k + n : Nat)) ∧ Dr w w' := by
  have HR := Lib.hid hr
  clear hr
  go_enter Try.func23, Try.ntmps23
  go_wp2
  go_loop [1, 5] (fun t i => ∃ (j : Nat), j ≤ n ∧ i = .int .i64 j ∧ t = .int .i64 (k + j : Nat)) (fun _ i => n - (intOf i).toNat)
  case atStart => exact ⟨0, Nat.zero_le _, rfl, rfl⟩
  case round =>
    obtain ⟨j, hj, rfl, rfl⟩ := hrel
    by_cases hlt : j < n
    · obtain ⟨b, off, rfl, hbB, hc⟩ := HR.out.at_ (show (iv (imarks n k))[j]? = some (.int .i64 ((k + j : Nat) : Int)) by simp [iv, imarks, hlt])
      clear HR
      go_wp2
      go_round
      case rel => exact ⟨j + 1, by omega, by go_num, by go_num⟩
      case measure => simp [intOf]; omega
    · obtain rfl : j = n := by omega
      clear HR
      go_wp2
      go_ret
      exact ⟨rfl, Dr.refl _⟩
end Go.Proofs.Ytfiaidphcecnhaa
