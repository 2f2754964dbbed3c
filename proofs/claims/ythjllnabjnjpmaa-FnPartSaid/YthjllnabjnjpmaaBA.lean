/-
  CONTRACTS: the small functions of beams: ports, given ports, turned, l2Bend, l2Step, l2Leave, l2Enter, enter.
-/
import Derived.Test.YthjllnabjnjpmaaPG
import Derived.Test.YthjllnabjnjpmaaY
namespace Go.Proofs.Ythjllnabjnjpmaa
set_option maxRecDepth 100000
open Go.RowKit

/-- the field of a grid -/
def fld (g : List ByteArray) : Fd := ⟨g.length, width g, cellAt g⟩
theorem fld_letters {g : List ByteArray} (hg : gridB g = true) : (fld g).Letters := fun r c hr hc => by
  have h := cell_letter hg (r := r) (c := c) hr hc
  unfold letterB at h
  simp only [Bool.or_eq_true, beq_iff_eq] at h
  show cellAt g r c = 46 ∨ _ ∨ _
  rcases h with (h | h) | h
  · exact .inl h
  · exact .inr (.inl h)
  · exact .inr (.inr h)
def portsN (g : List ByteArray) : Nat := 2 * (g.length + width g)
theorem ports_fld (g : List ByteArray) : (fld g).ports = portsN g := by unfold Fd.ports fld portsN; simp only; omega
def givenB (g : List ByteArray) (p : Int) : Bool := gridB g && inB p 0 ((portsN g : Int) - 1)
theorem givenB_iff {g : List ByteArray} {p : Int} : givenB g p = true ↔ gridB g = true ∧ 0 ≤ p ∧ p < portsN g := by
  unfold givenB
  rw [Bool.and_eq_true, inB_iff]
  constructor
  · rintro ⟨h1, h2, h3⟩; exact ⟨h1, h2, by omega⟩
  · rintro ⟨h1, h2, h3⟩; exact ⟨h1, h2, by omega⟩

theorem l2Ports_any (n m : Nat) (hn : n ≤ 5) (hm : m ≤ 5) (w : World) :
    Calls Try.prog 64 #[.int .i64 n, .int .i64 m] w fun e w' => e = .returned (.int .i64 (2 * ((n : Int) + (m : Int)))) ∧ w = w' := by
  go_enter Try.func64, Try.ntmps64
  go_wp2
  go_ret
  exact ⟨rfl, rfl⟩
theorem portMany_any (A : Option Addr) (c : Nat) (g : List ByteArray) (w : World) (B : Nat) (hr : Rd w B A (sv g)) (hg : gridB g = true) :
    Calls Try.prog 59 #[.slice A g.length c] w fun e w' => e = .returned (.int .i64 (portsN g : Nat)) ∧ w = w' := by
  obtain ⟨hl1, hl2⟩ := grid_len hg
  obtain ⟨hw1, hw2⟩ := grid_width hg
  obtain ⟨b, off, rfl, hb, hc0⟩ := hr.at_ (sv_get g 0 (by omega))
  rw [Nat.add_zero] at hc0
  have hsz0 : g[0].size = width g := grid_row hg 0 (by omega)
  have HZ := Lib.hid hsz0
  have hsz : g[0].size ≤ 5 := by omega
  have hpos : 0 < g.length := by omega
  have HP := Lib.hid (show ((portsN g : Nat) : Int) = 2 * (g.length : Int) + 2 * (g[0].size : Int) by unfold portsN; omega)
  generalize g[0] = s0 at *
  clear hg hr hsz0
  go_enter Try.func59, Try.ntmps59
  go_wp2
  go_ret
  exact ⟨by rw [HP.out]; rfl, rfl⟩
theorem turnD_r (d : Nat) (h : d < 4) : turnD 114 d = [1, 0, 3, 2].getD d 0 := by
  have hd : d = 0 ∨ d = 1 ∨ d = 2 ∨ d = 3 := by omega
  rcases hd with rfl | rfl | rfl | rfl <;> rfl
theorem turnD_f (d : Nat) (h : d < 4) : turnD 102 d = [3, 2, 1, 0].getD d 0 := by
  have hd : d = 0 ∨ d = 1 ∨ d = 2 ∨ d = 3 := by omega
  rcases hd with rfl | rfl | rfl | rfl <;> rfl
theorem turnD_o (b : UInt8) (d : Nat) (h1 : b ≠ 114) (h2 : b ≠ 102) : turnD b d = d := by unfold turnD; rw [if_neg h1, if_neg h2]
theorem turned_any (b : UInt8) (d : Nat) (hd : d < 4) (w : World) :
    Calls Try.prog 71 #[.int .u8 b.toNat, .int .i64 d] w fun e w' => e = .returned (.int .i64 (turnD b d : Nat)) ∧ Below w.heap.size w w' := by
  have hk1 := u8_114 b
  have hk2 := u8_102 b
  have hcase : d = 0 ∨ d = 1 ∨ d = 2 ∨ d = 3 := by omega
  by_cases h1 : b = 114
  · have hb1 : ((b.toNat : Int) == 114) = true := by rw [hk1, h1]; rfl
    rcases hcase with rfl | rfl | rfl | rfl
    all_goals
      have H := Lib.hid h1
      clear hk1 hk2 h1 hd
      go_enter Try.func71, Try.ntmps71
      go_wp2
      go_ret
      exact ⟨by rw [H.out]; rfl, below_alloc1 _ _⟩
  · by_cases h2 : b = 102
    · have hb1 : ((b.toNat : Int) == 114) = false := by rw [hk1]; exact beq_eq_false_iff_ne.2 h1
      have hb2 : ((b.toNat : Int) == 102) = true := by rw [hk2, h2]; rfl
      rcases hcase with rfl | rfl | rfl | rfl
      all_goals
        have H := Lib.hid h2
        clear hk1 hk2 h1 h2 hd
        go_enter Try.func71, Try.ntmps71
        go_wp2
        go_ret
        exact ⟨by rw [H.out]; rfl, below_alloc1 _ _⟩
    · have H := Lib.hid (turnD_o b d h1 h2)
      have hb1 : ((b.toNat : Int) == 114) = false := by rw [hk1]; exact beq_eq_false_iff_ne.2 h1
      have hb2 : ((b.toNat : Int) == 102) = false := by rw [hk2]; exact beq_eq_false_iff_ne.2 h2
      clear hk1 hk2 h1 h2 hcase
      go_enter Try.func71, Try.ntmps71
      go_wp2
      go_ret
      exact ⟨by rw [H.out]; rfl, Below.refl _ _⟩
theorem l2Bend_any (b : UInt8) (d : Nat) (hd : d < 4) (w : World) :
    Calls Try.prog 67 #[.int .u8 b.toNat, .int .i64 d] w fun e w' => e = .returned (.int .i64 (turnD b d : Nat)) ∧ w = w' := by
  have hk1 := u8_114 b
  have hk2 := u8_102 b
  have hcase : d = 0 ∨ d = 1 ∨ d = 2 ∨ d = 3 := by omega
  by_cases h1 : b = 114
  · have hb1 : ((b.toNat : Int) == 114) = true := by rw [hk1, h1]; rfl
    rcases hcase with rfl | rfl | rfl | rfl
    all_goals
      have H := Lib.hid h1
      clear hk1 hk2 h1 hd
      go_enter Try.func67, Try.ntmps67
      go_wp2
      go_ret
      exact ⟨by rw [H.out]; rfl, rfl⟩
  · by_cases h2 : b = 102
    · have hb1 : ((b.toNat : Int) == 114) = false := by rw [hk1]; exact beq_eq_false_iff_ne.2 h1
      have hb2 : ((b.toNat : Int) == 102) = true := by rw [hk2, h2]; rfl
      rcases hcase with rfl | rfl | rfl | rfl
      all_goals
        have H := Lib.hid h2
        clear hk1 hk2 h1 h2 hd
        go_enter Try.func67, Try.ntmps67
        go_wp2
        go_ret
        exact ⟨by rw [H.out]; rfl, rfl⟩
    · have H := Lib.hid (turnD_o b d h1 h2)
      have hb1 : ((b.toNat : Int) == 114) = false := by rw [hk1]; exact beq_eq_false_iff_ne.2 h1
      have hb2 : ((b.toNat : Int) == 102) = false := by rw [hk2]; exact beq_eq_false_iff_ne.2 h2
      clear hk1 hk2 h1 h2 hcase
      go_enter Try.func67, Try.ntmps67
      go_wp2
      go_ret
      exact ⟨by rw [H.out]; rfl, rfl⟩
/-- where a step leads, the field left or not -/
def nextR (r d : Nat) : Int := if d = 0 then (r : Int) - 1 else if d = 2 then (r : Int) + 1 else r
def nextC (c d : Nat) : Int := if d = 1 then (c : Int) + 1 else if d = 3 then (c : Int) - 1 else c
theorem l2Step_any (r c d : Nat) (hd : d < 4) (hr : r ≤ 5) (hc : c ≤ 5) (w : World) :
    Calls Try.prog 68 #[.int .i64 r, .int .i64 c, .int .i64 d] w fun e w' => e = .returned (.tuple #[.int .i64 (nextR r d), .int .i64 (nextC c d)]) ∧ w = w' := by
  have hcase : d = 0 ∨ d = 1 ∨ d = 2 ∨ d = 3 := by omega
  rcases hcase with rfl | rfl | rfl | rfl
  all_goals
    clear hd
    go_enter Try.func68, Try.ntmps68
    go_wp2
    go_ret2
    exact ⟨rfl, rfl⟩
def leaveI (n m : Nat) (i k : Int) : Int := if i < 0 then k else if (m : Int) ≤ k then (m : Int) + i else if (n : Int) ≤ i then 2 * (m : Int) + n - 1 - k else if k < 0 then 2 * ((n : Int) + m) - 1 - i else -1
theorem l2Leave_any (n m : Nat) (i k : Int) (hn : n ≤ 5) (hm : m ≤ 5) (hi : -1 ≤ i ∧ i ≤ 5) (hk : -1 ≤ k ∧ k ≤ 5) (w : World) :
    Calls Try.prog 69 #[.int .i64 n, .int .i64 m, .int .i64 i, .int .i64 k] w fun e w' => e = .returned (.int .i64 (leaveI n m i k)) ∧ w = w' := by
  obtain ⟨hi1, hi2⟩ := hi
  obtain ⟨hk1, hk2⟩ := hk
  by_cases h1 : i < 0
  · have H : Hid (leaveI n m i k = k) := if_pos h1
    go_enter Try.func69, Try.ntmps69
    go_wp2
    go_ret
    exact ⟨by rw [H.out]; rfl, rfl⟩
  · by_cases h2 : (m : Int) ≤ k
    · have H : Hid (leaveI n m i k = (m : Int) + i) := by unfold leaveI; rw [if_neg h1, if_pos h2]; rfl
      go_enter Try.func69, Try.ntmps69
      go_wp2
      go_ret
      exact ⟨by rw [H.out]; rfl, rfl⟩
    · by_cases h3 : (n : Int) ≤ i
      · have H : Hid (leaveI n m i k = 2 * (m : Int) + n - 1 - k) := by unfold leaveI; rw [if_neg h1, if_neg h2, if_pos h3]; rfl
        go_enter Try.func69, Try.ntmps69
        go_wp2
        go_ret
        exact ⟨by rw [H.out]; rfl, rfl⟩
      · by_cases h4 : k < 0
        · have H : Hid (leaveI n m i k = 2 * ((n : Int) + m) - 1 - i) := by unfold leaveI; rw [if_neg h1, if_neg h2, if_neg h3, if_pos h4]; rfl
          go_enter Try.func69, Try.ntmps69
          go_wp2_with fail
          refine (l2Ports_any n m hn hm _).mono ?_
          rintro e w2 ⟨rfl, rfl⟩
          go_wp2
          go_ret
          exact ⟨by rw [H.out]; rfl, rfl⟩
        · have H : Hid (leaveI n m i k = -1) := by unfold leaveI; rw [if_neg h1, if_neg h2, if_neg h3, if_neg h4]; rfl
          go_enter Try.func69, Try.ntmps69
          go_wp2
          go_ret
          exact ⟨by rw [H.out]; rfl, rfl⟩
/-- the port left through, or -1 -/
def exitI (F : Fd) (s : St) : Int := match F.exit s with | some q => q | none => -1
theorem leave_eq {F : Fd} {s : St} (hs : F.Ok s) : leaveI F.n F.m (nextR s.r (F.out s)) (nextC s.c (F.out s)) = exitI F s := by
  have h4 := Fd.out_lt hs
  obtain ⟨h1, h2, h3⟩ := hs
  have hcase : F.out s = 0 ∨ F.out s = 1 ∨ F.out s = 2 ∨ F.out s = 3 := by omega
  unfold leaveI nextR nextC exitI Fd.exit
  rcases hcase with e | e | e | e
  · rw [e]; simp only [if_pos]
    by_cases h : s.r = 0
    · rw [if_pos h]; simp; omega
    · rw [if_neg h]; simp; repeat' split
      all_goals omega
  · rw [e]; simp
    by_cases h : s.c + 1 = F.m
    · rw [if_pos h]; simp; repeat' split
      all_goals omega
    · rw [if_neg h]; simp; repeat' split
      all_goals omega
  · rw [e]; simp
    by_cases h : s.r + 1 = F.n
    · rw [if_pos h]; simp; repeat' split
      all_goals omega
    · rw [if_neg h]; simp; repeat' split
      all_goals omega
  · rw [e]; simp
    by_cases h : s.c = 0
    · rw [if_pos h]; simp; repeat' split
      all_goals omega
    · rw [if_neg h]; simp; repeat' split
      all_goals omega
theorem next_eq {F : Fd} {s : St} (hs : F.Ok s) (he : F.exit s = none) : nextR s.r (F.out s) = ((F.step s).r : Nat) ∧ nextC s.c (F.out s) = ((F.step s).c : Nat) ∧ (F.step s).d = F.out s := by
  have h4 := Fd.out_lt hs
  obtain ⟨he0, he1, he2, he3⟩ := (Fd.exit_none s h4).1 he
  rw [Fd.step_eq s h4]
  have hcase : F.out s = 0 ∨ F.out s = 1 ∨ F.out s = 2 ∨ F.out s = 3 := by omega
  unfold nextR nextC
  rcases hcase with e | e | e | e <;> rw [e] at he0 he1 he2 he3 ⊢ <;> simp at he0 he1 he2 he3 ⊢ <;> omega
theorem next_bd {r c d : Nat} (hr : r < 5) (hc : c < 5) : (-1 ≤ nextR r d ∧ nextR r d ≤ 5) ∧ (-1 ≤ nextC c d ∧ nextC c d ≤ 5) := by
  unfold nextR nextC
  constructor
  · repeat' split
    all_goals omega
  · repeat' split
    all_goals omega
theorem l2Enter_any (F : Fd) (p : Nat) (hn : 1 ≤ F.n ∧ F.n ≤ 5) (hm : 1 ≤ F.m ∧ F.m ≤ 5) (hp : p < F.ports) (w : World) :
    Calls Try.prog 84 #[.int .i64 F.n, .int .i64 F.m, .int .i64 p] w fun e w' => e = .returned (.tuple #[.int .i64 (F.enter p).r, .int .i64 (F.enter p).c, .int .i64 (F.enter p).d]) ∧ w = w' := by
  obtain ⟨n, m, L⟩ := F
  obtain ⟨hn1, hn2⟩ := hn
  obtain ⟨hm1, hm2⟩ := hm
  unfold Fd.ports at hp
  simp only at hn1 hn2 hm1 hm2 hp
  show Calls Try.prog 84 #[.int .i64 n, .int .i64 m, .int .i64 p] w _
  by_cases h1 : p < m
  · have H : Hid (Fd.enter ⟨n, m, L⟩ p = ⟨0, p, 2⟩) := if_pos h1
    go_enter Try.func84, Try.ntmps84
    go_wp2
    go_ret3
    exact ⟨by rw [H.out]; rfl, rfl⟩
  · by_cases h2 : p < m + n
    · have H : Hid (Fd.enter ⟨n, m, L⟩ p = ⟨p - m, m - 1, 3⟩) := by unfold Fd.enter; rw [if_neg h1, if_pos h2]; rfl
      have E1 := Lib.hid (show ((p - m : Nat) : Int) = (p : Int) - m by omega)
      have E2 := Lib.hid (show ((m - 1 : Nat) : Int) = (m : Int) - 1 by omega)
      go_enter Try.func84, Try.ntmps84
      go_wp2
      go_ret3
      exact ⟨by rw [H.out]; simp only [E1.out, E2.out]; rfl, rfl⟩
    · by_cases h3 : p < 2 * m + n
      · have H : Hid (Fd.enter ⟨n, m, L⟩ p = ⟨n - 1, 2 * m + n - 1 - p, 0⟩) := by unfold Fd.enter; rw [if_neg h1, if_neg h2, if_pos h3]; rfl
        have E1 := Lib.hid (show ((n - 1 : Nat) : Int) = (n : Int) - 1 by omega)
        have E2 := Lib.hid (show ((2 * m + n - 1 - p : Nat) : Int) = 2 * (m : Int) + n - 1 - p by omega)
        go_enter Try.func84, Try.ntmps84
        go_wp2
        go_ret3
        exact ⟨by rw [H.out]; simp only [E1.out, E2.out]; rfl, rfl⟩
      · have H : Hid (Fd.enter ⟨n, m, L⟩ p = ⟨2 * m + 2 * n - 1 - p, 0, 1⟩) := by unfold Fd.enter; rw [if_neg h1, if_neg h2, if_neg h3]; rfl
        have E1 := Lib.hid (show ((2 * m + 2 * n - 1 - p : Nat) : Int) = 2 * ((n : Int) + m) - 1 - p by omega)
        go_enter Try.func84, Try.ntmps84
        go_wp2_with fail
        refine (l2Ports_any n m hn2 hm2 _).mono ?_
        rintro e w2 ⟨rfl, rfl⟩
        go_wp2
        go_ret3
        exact ⟨by rw [H.out]; simp only [E1.out]; rfl, rfl⟩
theorem below_two {w w' : World} (h : Below w.heap.size w w') (a b : Addr) (ha : w.heap.size ≤ a.block) (hb : w.heap.size ≤ b.block) (u v : Value) : Below w.heap.size w ((w'.setCell a u).setCell b v) := (h.setCell ha u).setCell hb v
/-- a step as a value -/
def stV (F : Fd) (s : St) : Value := .agg #[.int .i64 (F.cellN s : Nat), .int .i64 (s.d : Nat)]
theorem enter_any (A : Option Addr) (cp : Nat) (g : List ByteArray) (p : Nat) (w : World) (hr : Rd w w.heap.size A (sv g)) (hg : gridB g = true) (hp : p < portsN g) :
    Calls Try.prog 70 #[.slice A g.length cp, .int .i64 p] w fun e w' => e = .returned (stV (fld g) ((fld g).enter p)) ∧ Below w.heap.size w w' := by
  have hr1 := hr.below (below_alloc1 w (.cells #[.int .i64 0, .int .i64 0] 77))
  obtain ⟨hl1, hl2⟩ := grid_len hg
  obtain ⟨hw1, hw2⟩ := grid_width hg
  obtain ⟨b, off, rfl, hb, hc0⟩ := hr1.at_ (sv_get g 0 (by omega))
  rw [Nat.add_zero] at hc0
  have hsz0 : g[0].size = width g := grid_row hg 0 (by omega)
  unfold portsN at hp
  obtain ⟨m, hmm⟩ : ∃ m, m = g[0].size := ⟨_, rfl⟩
  have hm5 : m ≤ 5 := by omega
  have hm1 : 1 ≤ m := by omega
  have hz5 : g[0].size ≤ 5 := by omega
  have hz1 : 1 ≤ g[0].size := by omega
  have HF := Lib.hid (show (fld g).m = g[0].size by unfold fld; exact hsz0.symm)
  have HN := Lib.hid (show (fld g).n = g.length from rfl)
  rw [← hsz0] at hp
  have hpos : 0 < g.length := by omega
  generalize g[0] = s0 at *
  clear hg hsz0 hr hr1 hw1 hw2
  clear hmm hm5 hm1 m
  have hend : ∀ (x d : Int) (nq : Nat), Below w.heap.size w ((((w.alloc (Obj.cells #[Value.int IntKind.i64 0, Value.int IntKind.i64 0] 77)).drewN nq).setCell ⟨w.heap.size, 0, none⟩ (.int .i64 x)).setCell ⟨w.heap.size, 1, none⟩ (.int .i64 d)) :=
    fun x d nq => below_two ((below_alloc1 w _).trans (below_drewN _ nq _)) _ _ (Nat.le_refl _) (Nat.le_refl _) _ _
  have HE := Lib.hid hend
  clear hend
  by_cases h1 : p < s0.size
  · have H := Lib.hid (show stV (fld g) ((fld g).enter p) = .agg #[.int .i64 p, .int .i64 2] by
      unfold stV Fd.enter Fd.cellN; rw [HF.out, if_pos h1]; simp)
    go_enter Try.func70, Try.ntmps70
    go_wp2_with fail
    go_quiet (fail)
    go_wp2
    refine bodyPost_ret (v := .agg #[.int .i64 p, .int .i64 2]) (by simp [results, go_sem]) rfl ⟨by rw [H.out], HE.out _ _ _⟩
  · have hmul1 : 0 ≤ ((p : Int) - s0.size) * s0.size := Int.mul_nonneg (by omega) (by omega)
    by_cases h2 : p < s0.size + g.length
    · obtain ⟨x, hx⟩ : ∃ x, p - s0.size = x := ⟨_, rfl⟩
      have hxi : (p : Int) - s0.size = (x : Int) := by omega
      have hmul2 := (mul_bd (n := x) (m := s0.size) (a := 5) (b := 5) (by omega) hz5).1
      rw [← hxi] at hmul2
      have H := Lib.hid (show stV (fld g) ((fld g).enter p) = .agg #[.int .i64 (((p : Int) - s0.size) * s0.size + s0.size - 1), .int .i64 3] by
        unfold stV Fd.enter Fd.cellN; rw [HF.out, HN.out, if_neg h1, if_pos h2]
        simp only
        rw [hx, hxi]
        congr 4
        rw [Int.natCast_add, Int.natCast_mul]; omega)
      clear hxi hx
      go_enter Try.func70, Try.ntmps70
      go_wp2_with fail
      go_quiet (fail)
      go_wp2
      refine bodyPost_ret (v := .agg #[.int .i64 (((p : Int) - s0.size) * s0.size + s0.size - 1), .int .i64 3]) (by simp [results, go_sem]) rfl ⟨by rw [H.out], HE.out _ _ _⟩
    · by_cases h3 : p < 2 * s0.size + g.length
      · obtain ⟨x, hx⟩ : ∃ x, g.length - 1 = x := ⟨_, rfl⟩
        have hxi : (g.length : Int) - 1 = (x : Int) := by omega
        have hmul2 := mul_bd (n := x) (m := s0.size) (a := 5) (b := 5) (by omega) hz5
        rw [← hxi] at hmul2
        obtain ⟨hmul2, hmul3⟩ := hmul2
        have H := Lib.hid (show stV (fld g) ((fld g).enter p) = .agg #[.int .i64 (((g.length : Int) - 1) * s0.size + s0.size - 1 - ((p : Int) - s0.size - g.length)), .int .i64 0] by
          unfold stV Fd.enter Fd.cellN; rw [HF.out, HN.out, if_neg h1, if_neg h2, if_pos h3]
          simp only
          rw [hx, hxi]
          congr 4
          rw [Int.natCast_add, Int.natCast_mul]; omega)
        clear hxi hx
        go_enter Try.func70, Try.ntmps70
        go_wp2_with fail
        go_quiet (fail)
        go_wp2
        refine bodyPost_ret (v := .agg #[.int .i64 (((g.length : Int) - 1) * s0.size + s0.size - 1 - ((p : Int) - s0.size - g.length)), .int .i64 0]) (by simp [results, go_sem]) rfl ⟨by rw [H.out], HE.out _ _ _⟩
      · obtain ⟨x, hx⟩ : ∃ x, 2 * s0.size + 2 * g.length - 1 - p = x := ⟨_, rfl⟩
        have hxi : (g.length : Int) - 1 - ((p : Int) - 2 * s0.size - g.length) = (x : Int) := by omega
        have hmul2 := mul_bd (n := x) (m := s0.size) (a := 5) (b := 5) (by omega) hz5
        rw [← hxi] at hmul2
        obtain ⟨hmul2, hmul3⟩ := hmul2
        have H := Lib.hid (show stV (fld g) ((fld g).enter p) = .agg #[.int .i64 (((g.length : Int) - 1 - ((p : Int) - 2 * s0.size - g.length)) * s0.size), .int .i64 1] by
          unfold stV Fd.enter Fd.cellN; rw [HF.out, HN.out, if_neg h1, if_neg h2, if_neg h3]
          simp only
          rw [hx, hxi]
          congr 4)
        clear hxi hx
        go_enter Try.func70, Try.ntmps70
        go_wp2_with fail
        go_quiet (fail)
        go_wp2
        refine bodyPost_ret (v := .agg #[.int .i64 (((g.length : Int) - 1 - ((p : Int) - 2 * s0.size - g.length)) * s0.size), .int .i64 1]) (by simp [results, go_sem]) rfl ⟨by rw [H.out], HE.out _ _ _⟩
end Go.Proofs.Ythjllnabjnjpmaa
