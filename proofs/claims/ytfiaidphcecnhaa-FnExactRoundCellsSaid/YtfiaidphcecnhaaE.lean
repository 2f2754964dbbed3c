/-
  CONTRACTS: markText, markStringS, heldStringS.
-/
import Derived.Test.YtfiaidphcecnhaaC
namespace Go.Proofs.Ytfiaidphcecnhaa
open Go.RowKit

def dgt (k : Nat) : UInt8 := UInt8.ofNat (48 + k % 10)
theorem dgt_nat (k : Nat) : ((dgt k).toNat : Int) = 48 + (k : Int) % 10 := by unfold dgt; rw [UInt8.toNat_ofNat']; omega
/-- the decimal digits of a number ahead of what is there; f: fuel -/
def dgF : Nat → Nat → List UInt8 → List UInt8
  | 0, _, acc => acc
  | f + 1, k, acc => if k = 0 then acc else dgF f (k / 10) (dgt k :: acc)
theorem dgF_fuel : ∀ (f k : Nat) (acc : List UInt8), k ≤ f → dgF f k acc = dgF k k acc
  | 0, k, acc, h => by obtain rfl : k = 0 := by omega
                       rfl
  | f + 1, k, acc, h => by
    by_cases h0 : k = 0
    · subst h0; simp [dgF]
    · obtain ⟨j, rfl⟩ : ∃ j, k = j + 1 := ⟨k - 1, by omega⟩
      have hq : (j + 1) / 10 ≤ j := by omega
      simp only [dgF, if_neg h0]
      rw [dgF_fuel f _ _ (by omega), dgF_fuel j _ _ hq]
theorem dgF_step {k : Nat} (acc : List UInt8) (h : 0 < k) : dgF k k acc = dgF (k / 10) (k / 10) (dgt k :: acc) := by
  obtain ⟨j, rfl⟩ : ∃ j, k = j + 1 := ⟨k - 1, by omega⟩
  conv => lhs; unfold dgF
  rw [if_neg (by omega), dgF_fuel j _ _ (by omega)]
def mkT (k : Nat) : ByteArray := if k = 0 then ⟨#[109, 48]⟩ else bs (109 :: dgF k k [])

set_option maxHeartbeats 400000 in
theorem markText_any (k : Nat) (w : World) (hk : k ≤ 4000000) :
    Calls Try.prog 57 #[.int .i64 k] w fun e w' => e = .returned (.string (mkT k)) ∧ Below w.heap.size w w' := by
  by_cases h0 : k = 0
  · subst h0
    go_enter Try.func57, Try.ntmps57
    go_wp2
    go_ret
    exact ⟨rfl, Below.refl _ _⟩
  · have HM : Hid (mkT k = bs (109 :: dgF k k [])) := if_neg h0
    have hpos : 0 < k := by omega
    clear h0
    go_enter Try.func57, Try.ntmps57
    go_wp2
    go_loopw [0, 3] (fun t o wr => ∃ (j : Nat) (acc : List UInt8), j ≤ k ∧ t = .int .i64 j ∧ o = .string (bs acc) ∧ (acc.length + j : Int) ≤ k ∧ Hid (dgF j j acc = dgF k k []) ∧ Below w.heap.size w wr) (fun t _ _ => (intOf t).toNat)
    case atStart => exact ⟨k, [], by omega, rfl, rfl, by simp, rfl, Below.refl _ _⟩
    case round =>
      obtain ⟨j, acc, hj, rfl, rfl, hlen, HJ, hb⟩ := hrel
      by_cases hj0 : 0 < j
      · have hcv := run_bytes_text (P := Try.prog) (wr.alloc (.cells #[.int .u8 (48 + (j : Int) % 10)] 5)) 32 9 5 Try.underlying32 Try.underlying5 Try.underlying9
          (some ⟨wr.heap.size, 0, none⟩) 1 (wr.heap.size + 1) [dgt j] (rd_one _ _ _ (by show [Value.int .u8 ((dgt j).toNat : Int)] = _; rw [dgt_nat]))
        have hsz : (bs acc).size ≤ 4000000 := by rw [bs_size]; omega
        have hs1 : (bs [dgt j]).size ≤ 1 := Nat.le_refl _
        have HA := Lib.hid (bs_append [dgt j] acc)
        have HD := Lib.hid (dgF_step acc hj0)
        rw [show ([dgt j] : List UInt8).length = 1 from rfl] at hcv
        go_wp2
        go_roundw
        case rel => exact ⟨j / 10, dgt j :: acc, by omega, by go_num, by rw [HA.out]; rfl, by simp; omega, by rw [← HJ.out, HD.out]; rfl, hb.alloc hb.size _⟩
        case measure => simp [intOf]; omega
      · obtain rfl : j = 0 := by omega
        have hsz : (bs acc).size ≤ 4000000 := by rw [bs_size]; omega
        have HA := Lib.hid (bs_append [109] acc)
        go_wp2
        go_ret
        refine ⟨?_, hb⟩
        rw [HM.out, ← HJ.out]
        exact congrArg (fun s => Ending.returned (Value.string s)) HA.out

/-- the texts that the marks are: k, k + 1, .. -/
def marks (n k : Nat) : List ByteArray := (List.range n).map fun i => mkT (k + i)
theorem marks_length (n k : Nat) : (marks n k).length = n := by simp [marks]
theorem marks_succ (n k : Nat) : marks (n + 1) k = marks n k ++ [mkT (k + n)] := by simp [marks, List.range_succ]
theorem marks_get (n k i : Nat) (h : i < n) : (marks n k)[i]? = some (mkT (k + i)) := by simp [marks, h]
theorem marks_getElem (n k i : Nat) (h : i < (marks n k).length) : (marks n k)[i] = mkT (k + i) := by simp [marks]
theorem marks_take (n k i : Nat) (h : i ≤ n) : (marks n k).take i = marks i k := by
  unfold marks
  rw [← List.map_take, List.take_range, Nat.min_eq_left h]

set_option maxHeartbeats 400000 in
theorem markStringS_any (A : Option Addr) (c : Nat) (g : List ByteArray) (k : Nat) (w : World) (base : Nat) (ho : w.ownsRow base 9 1 (.slice A g.length c) g.length (sv g)) (hk : k + g.length ≤ 4000000) :
    Calls Try.prog 21 #[.slice A g.length c, .int .i64 k] w fun e w' => e = .returned (.int .i64 (k + g.length : Nat)) ∧
      w'.ownsRow base 9 1 (.slice A g.length c) g.length (sv (marks g.length k)) ∧ w.grownBy w' (Value.slice A g.length c).ownBlock := by
  rcases ho.2 with ⟨hv, h0⟩ | ⟨b, cap, cur, hv, hbg, hg, hnc, hcm, hcs, htake⟩
  · injection hv with hA hn hc
    have hg0 : g = [] := List.eq_nil_of_length_eq_zero hn
    subst hg0; subst hA; subst hc
    clear ho hk
    go_enter Try.func21, Try.ntmps21
    go_wp2
    go_loop [1, 5] (fun t i => t = .int .i64 k ∧ i = .int .i64 0) (fun t i => 0)
    case atStart => exact ⟨rfl, rfl⟩
    case round =>
      obtain ⟨rfl, rfl⟩ := hrel
      go_wp2
      go_ret
      exact ⟨rfl, ⟨by simp [sv, marks], Or.inl ⟨rfl, rfl⟩⟩, World.grownBy.refl _ _⟩
  · injection hv with hA hn hc
    subst hA; subst hc
    clear ho
    have hn : g.length ≤ 4000000 := by omega
    go_enter Try.func21, Try.ntmps21
    go_wp2
    go_loopw [1, 5] (fun t i wr => ∃ (j : Nat) (cs : Array Value), j ≤ g.length ∧ i = .int .i64 j ∧ t = .int .i64 (k + j : Nat) ∧ Hid (wr.heap[b]? = some (.cells cs 9 (0, 0))) ∧ Hid (cs.size = c) ∧
        Hid (cs.toList.take j = sv (marks j k)) ∧ Hid (w.grownBy wr (some b))) (fun _ i _ => g.length - (intOf i).toNat)
    case atStart => exact ⟨0, cur, Nat.zero_le _, rfl, rfl, hg, by simp [Hid, hcs], by simp [Hid, marks, sv], World.grownBy.refl _ _⟩
    case round =>
      obtain ⟨j, cs, hj, rfl, rfl, H1, H2, H3, H4⟩ := hrel
      by_cases hlt : j < g.length
      · clear hg htake
        go_wp2_with fail
        refine (markText_any (k + j) wr (by omega)).mono ?_
        rintro e w1 ⟨rfl, hb1⟩
        have H1' : w1.heap[b]? = some (.cells cs 9 (0, 0)) := (hb1.block b (Array.getElem?_eq_some_iff.1 H1.out).1).trans H1.out
        have hjs : j < cs.size := by rw [H2.out]; omega
        have hc2 := row_cell H1' j hjs
        have hf2 := row_frozen H1' j
        have HW1 := Lib.hid H1'
        have HB1 := Lib.hid hb1
        clear H1' hb1
        have H3' := Lib.hid (show (cs.setIfInBounds j (.string (mkT (k + j)))).toList.take (j + 1) = sv (marks (j + 1) k) by
          rw [row_take_set hjs, H3.out, marks_succ, sv_snoc])
        go_wp2
        go_roundw
        case rel => exact ⟨j + 1, _, by omega, by go_num, by go_num, row_set HW1.out _ _, (by simp [Hid]; exact H2.out), H3', grown_set (grown_below H4.out HB1.out) _ _⟩
        case measure => simp [intOf]; omega
      · obtain rfl : j = g.length := by omega
        clear hg htake
        go_wp2
        go_ret
        refine ⟨rfl, ⟨by simp [sv, marks], .inr ⟨b, c, cs, rfl, hbg, H1.out, hnc, hcm, by rw [H2.out]; simp, by rw [Nat.mul_one]; exact H3.out⟩⟩, H4.out⟩
end Go.Proofs.Ytfiaidphcecnhaa
