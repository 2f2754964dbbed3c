/-
  CONTRACTS: BeamWay, BeamLength of the program and of the reference.
-/
import Derived.Test.YtfiaidphcecnhaaBE
namespace Go.Proofs.Ytfiaidphcecnhaa
open Go.RowKit

theorem nil_own (w : World) : (w.alloc (.cells #[] 3)).ownsRow w.heap.size 3 1 (.slice (some ⟨w.heap.size, 0, none⟩) 0 0) 0 (iv (ni [])) := own_empty w 3
theorem wayA_yes_len {g : List ByteArray} {p : Nat} (h : givenB g p = true) : (ni (wayA g p)).length = lenB (fld g) p + 1 := by rw [ni_length, wayA_yes h, Fd.way_length]
theorem wayA_yes_iv {g : List ByteArray} {p : Nat} (h : givenB g p = true) : wayC (fld g) ((fld g).enter p) (lenB (fld g) p + 1) = ni (wayA g p) := by rw [wayC_way, wayA_yes h]
theorem iBeamWay_any (A : Option Addr) (c : Nat) (g : List ByteArray) (p : Int) (w : World) (hr : Rd w w.heap.size A (sv g)) (hm : g.length ≤ maxLen) (hs : ∀ s ∈ g, s.size ≤ maxLen) :
    Calls Try.prog 32 #[.slice A g.length c, .int .i64 p] w (FreshIB (ni (wayA g p)) (givenB g p) w) := by
  have hP := portOk_any A c g p w _ hr hm hs
  cases hb : givenB g p
  · rw [hb] at hP
    have HP := Lib.hid hP
    have HN := Lib.hid (wayA_no hb)
    have HO := Lib.hid (nil_own w)
    clear hP hb hr hm hs
    go_enter Try.func32, Try.ntmps32
    go_wp2_with fail
    refine HP.out.mono ?_
    rintro e w' ⟨rfl, rfl⟩
    go_wp2
    go_ret2
    rw [HN.out]
    exact ⟨_, _, rfl, HO.out, below_alloc1 _ _⟩
  · rw [hb] at hP
    obtain ⟨k, rfl, hk, hg⟩ := given_nat hb
    obtain ⟨he, hN⟩ := ends_B hg hk
    have HB := Lib.hid (beam_any A c g k _ _ w hr hg hk he hN)
    have HP := Lib.hid hP
    have HN1 := Lib.hid (wayA_yes_len hb)
    have HN2 := Lib.hid (wayA_yes_iv hb)
    obtain ⟨N, hNN⟩ : ∃ N, lenB (fld g) k = N := ⟨_, rfl⟩
    rw [hNN] at HB HN1 HN2 hN
    clear hNN
    clear hP hb hr hm hs he
    go_enter Try.func32, Try.ntmps32
    go_wp2_with fail
    refine HP.out.mono ?_
    rintro e w' ⟨rfl, rfl⟩
    go_wp2_with fail
    refine HB.out.mono ?_
    rintro e w1 ⟨A1, c1, rfl, ho1, hb1⟩
    have HC := Lib.hid (cellsOf_any A1 c1 (N + 1) (fld g) ((fld g).enter k) w1 (rd_own2 ho1) (by omega))
    clear ho1 HB
    go_wp2_with fail
    refine HC.out.mono ?_
    rintro e w2 ⟨A2, c2, rfl, ho2, hb2⟩
    have HO := Lib.hid (own_mono ho2 hb1.size)
    clear ho2
    go_wp2
    go_ret2
    exact ⟨A2, c2, by rw [HN1.out]; rfl, by rw [HN1.out, ← HN2.out]; exact HO.out, below_next hb1 hb2⟩
noncomputable def lenA (g : List ByteArray) (p : Int) : Nat := (wayA g p).length
theorem iBeamLength_any (A : Option Addr) (c : Nat) (g : List ByteArray) (p : Int) (w : World) (hr : Rd w w.heap.size A (sv g)) (hm : g.length ≤ maxLen) (hs : ∀ s ∈ g, s.size ≤ maxLen) :
    Calls Try.prog 27 #[.slice A g.length c, .int .i64 p] w fun e w' => e = .returned (.tuple #[.int .i64 (lenA g p : Nat), .bool (givenB g p)]) ∧ Below w.heap.size w w' := by
  have HW := Lib.hid (iBeamWay_any A c g p w hr hm hs)
  have HL := Lib.hid (show (ni (wayA g p)).length = lenA g p from ni_length _)
  clear hr hm hs
  go_enter Try.func27, Try.ntmps27
  go_wp2_with fail
  refine HW.out.mono ?_
  rintro e w1 ⟨A1, c1, rfl, ho1, hb1⟩
  clear ho1
  go_wp2
  go_ret2
  exact ⟨by rw [← HL.out]; rfl, hb1⟩
theorem sBeamLength_any (A : Option Addr) (c : Nat) (g : List ByteArray) (p : Int) (w : World) (hr : Rd w w.heap.size A (sv g)) (hm : g.length ≤ maxLen) (hs : ∀ s ∈ g, s.size ≤ maxLen) :
    Calls Try.prog 31 #[.slice A g.length c, .int .i64 p] w fun e w' => e = .returned (.tuple #[.int .i64 (lenA g p : Nat), .bool (givenB g p)]) ∧ Below w.heap.size w w' := by
  have hP := l2Given_any A c g p w _ hr hm hs
  cases hb : givenB g p
  · rw [hb] at hP
    have HP := Lib.hid hP
    have HN := Lib.hid (show lenA g p = 0 by unfold lenA; rw [wayA_no hb]; rfl)
    clear hP hb hr hm hs
    go_enter Try.func31, Try.ntmps31
    go_wp2_with fail
    refine HP.out.mono ?_
    rintro e w' ⟨rfl, hd⟩
    go_wp2
    go_ret2
    exact ⟨by rw [HN.out]; rfl, hd.below _⟩
  · rw [hb] at hP
    obtain ⟨k, rfl, hk, hg⟩ := given_nat hb
    obtain ⟨he, hN⟩ := ends_B hg hk
    have HB := Lib.hid (fun w hr => l2Way_any A c g k _ _ w hr hg hk he hN)
    have HP := Lib.hid hP
    have HN := Lib.hid (show lenA g k = lenB (fld g) k + 1 by unfold lenA; rw [wayA_yes hb, Fd.way_length])
    clear hP hb hm hs he hN
    go_enter Try.func31, Try.ntmps31
    go_wp2_with fail
    refine HP.out.mono ?_
    rintro e w' ⟨rfl, hd⟩
    have hr' := hr.later (hd.below _)
    clear hr
    go_wp2_with fail
    refine (HB.out _ hr').mono ?_
    rintro e w1 ⟨A1, c1, A2, c2, rfl, ho1, ho2, hb1⟩
    clear ho1 ho2
    go_wp2
    go_ret2
    exact ⟨by rw [HN.out]; rfl, below_next (hd.below _) hb1⟩
end Go.Proofs.Ytfiaidphcecnhaa
