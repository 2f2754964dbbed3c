/-
  PLAIN LAWS, NO Go IN SIGHT: counts in lists of numbers, and on beams.
-/
import Derived.Test.YthjllnabjnjpmaaPC
namespace Go.Proofs.Ythjllnabjnjpmaa
set_option maxRecDepth 100000

/-! ### counts in lists of numbers -/
def often (l : List Nat) (x : Nat) : Nat := (l.filter fun y => y == x).length
theorem often_nil (x : Nat) : often [] x = 0 := rfl
theorem often_cons (a : Nat) (l : List Nat) (x : Nat) : often (a :: l) x = (if a = x then 1 else 0) + often l x := by
  unfold often
  rw [List.filter_cons]
  by_cases h : a = x
  · rw [if_pos (by simpa using h), if_pos h, List.length_cons]; omega
  · rw [if_neg (by simpa using h), if_neg h]; omega
theorem often_append (l k : List Nat) (x : Nat) : often (l ++ k) x = often l x + often k x := by simp [often]
theorem often_snoc (l : List Nat) (a x : Nat) : often (l ++ [a]) x = often l x + if a = x then 1 else 0 := by rw [often_append, often_cons, often_nil]; omega
theorem often_reverse (l : List Nat) (x : Nat) : often l.reverse x = often l x := by simp [often]
theorem often_le (l : List Nat) (x : Nat) : often l x ≤ l.length := List.length_filter_le _ _
theorem often_pos {l : List Nat} {x : Nat} : 0 < often l x ↔ x ∈ l := by
  induction l with
  | nil => simp [often_nil]
  | cons a l ih =>
    rw [often_cons]
    by_cases h : a = x
    · subst h; simp; omega
    · have h2 : ¬ x = a := fun e => h e.symm
      simp only [if_neg h, List.mem_cons, h2, false_or]; rw [← ih]; omega
/-- how many of the numbers below M have p -/
def cntB (M : Nat) (p : Nat → Bool) : Nat := ((List.range M).filter p).length
theorem cntB_zero (p : Nat → Bool) : cntB 0 p = 0 := rfl
theorem cntB_succ (M : Nat) (p : Nat → Bool) : cntB (M + 1) p = cntB M p + if p M then 1 else 0 := by
  unfold cntB
  rw [List.range_succ, List.filter_append, List.length_append]
  congr 1
  by_cases h : p M <;> simp [h]
theorem cntB_le (M : Nat) (p : Nat → Bool) : cntB M p ≤ M := by
  unfold cntB
  have := List.length_filter_le p (List.range M)
  rw [List.length_range] at this; exact this
theorem cntB_ext (M : Nat) {p q : Nat → Bool} (h : ∀ x, x < M → p x = q x) : cntB M p = cntB M q := by
  unfold cntB
  rw [List.filter_congr fun x hx => h x (List.mem_range.1 hx)]
theorem cntB_none (M : Nat) {p : Nat → Bool} (h : ∀ x, x < M → p x = false) : cntB M p = 0 := by
  rw [cntB_ext M h]; unfold cntB; simp
theorem cntB_mono (M : Nat) {p q : Nat → Bool} (h : ∀ x, x < M → p x = true → q x = true) : cntB M p ≤ cntB M q := by
  induction M with
  | zero => exact Nat.le_refl _
  | succ M ih =>
    rw [cntB_succ, cntB_succ]
    have h1 := ih fun x hx => h x (by omega)
    have h2 := h M (by omega)
    by_cases hp : p M = true
    · rw [if_pos hp, if_pos (h2 hp)]; omega
    · rw [if_neg hp]; omega
/-- a sum over the numbers below M -/
def sumB (M : Nat) (f : Nat → Nat) : Nat := ((List.range M).map f).sum
theorem sumB_zero (f : Nat → Nat) : sumB 0 f = 0 := rfl
theorem sumB_succ (M : Nat) (f : Nat → Nat) : sumB (M + 1) f = sumB M f + f M := by unfold sumB; simp [List.range_succ]
theorem sumB_ext (M : Nat) {f g : Nat → Nat} (h : ∀ x, x < M → f x = g x) : sumB M f = sumB M g := by
  induction M with
  | zero => rfl
  | succ M ih => rw [sumB_succ, sumB_succ, ih fun x hx => h x (by omega), h M (by omega)]
theorem sumB_le (M : Nat) {f g : Nat → Nat} (h : ∀ x, x < M → f x ≤ g x) : sumB M f ≤ sumB M g := by
  induction M with
  | zero => exact Nat.le_refl _
  | succ M ih =>
    rw [sumB_succ, sumB_succ]
    have := ih fun x hx => h x (by omega)
    have := h M (by omega)
    omega
theorem sumB_add (M : Nat) (f g : Nat → Nat) : sumB M (fun x => f x + g x) = sumB M f + sumB M g := by
  induction M with
  | zero => rfl
  | succ M ih => rw [sumB_succ, sumB_succ, sumB_succ, ih]; omega
theorem sumB_one (M a : Nat) (f : Nat → Nat) (ha : a < M) : sumB M (fun x => if a = x then f x else 0) = f a := by
  induction M with
  | zero => omega
  | succ M ih =>
    rw [sumB_succ]
    by_cases h : a = M
    · subst h
      have h0 : sumB a (fun x => if a = x then f x else 0) = sumB a (fun _ => 0) := sumB_ext a fun x hx => if_neg (by omega)
      have h1 : ∀ k, sumB k (fun _ => 0) = 0 := fun k => by
        induction k with
        | zero => rfl
        | succ k ih => rw [sumB_succ, ih]
      rw [h0, h1, if_pos rfl]; omega
    · rw [ih (by omega), if_neg h]; omega
theorem sumB_const (M k : Nat) : sumB M (fun _ => k) = k * M := by
  induction M with
  | zero => rfl
  | succ M ih => rw [sumB_succ, ih, Nat.mul_succ]
theorem cntB_sum (M : Nat) (p : Nat → Bool) : cntB M p = sumB M fun x => if p x then 1 else 0 := by
  induction M with
  | zero => rfl
  | succ M ih => rw [cntB_succ, sumB_succ, ih]
/-- a sum over a list, number by number -/
theorem sum_often (M : Nat) (f : Nat → Nat) : ∀ l : List Nat, (∀ x ∈ l, x < M) → (l.map f).sum = sumB M fun x => often l x * f x
  | [], _ => by
    have : sumB M (fun x => often [] x * f x) = sumB M fun _ => 0 := sumB_ext M fun x _ => by rw [often_nil, Nat.zero_mul]
    rw [this, sumB_const, Nat.zero_mul]; rfl
  | a :: l, h => by
    have ha := h a (List.mem_cons_self ..)
    rw [List.map_cons, List.sum_cons, sum_often M f l fun x hx => h x (List.mem_cons_of_mem _ hx), ← sumB_one M a f ha, ← sumB_add]
    refine sumB_ext M fun x _ => ?_
    rw [often_cons, Nat.add_mul]
    congr 1
    by_cases e : a = x
    · rw [if_pos e, if_pos e, Nat.one_mul]
    · rw [if_neg e, if_neg e, Nat.zero_mul]
theorem length_often (M : Nat) (l : List Nat) (h : ∀ x ∈ l, x < M) : l.length = sumB M fun x => often l x := by
  have h1 := sum_often M (fun _ => 1) l h
  have h2 : ∀ l : List Nat, (l.map fun _ => 1).sum = l.length := fun l => by
    induction l with
    | nil => rfl
    | cons a l ih => rw [List.map_cons, List.sum_cons, ih, List.length_cons]; omega
  rw [h2] at h1
  rw [h1]
  exact sumB_ext M fun x _ => Nat.mul_one _
theorem sumB_mul (M k : Nat) (f : Nat → Nat) : sumB M (fun x => k * f x) = k * sumB M f := by
  induction M with
  | zero => rfl
  | succ M ih => rw [sumB_succ, sumB_succ, ih, Nat.mul_add]
/-- numbers that come again, where none comes more than twice -/
theorem twice_sum (M : Nat) (l : List Nat) (h : ∀ x ∈ l, x < M) (h2 : ∀ x, often l x ≤ 2) : (l.map fun x => often l x - 1).sum = 2 * cntB M fun x => often l x == 2 := by
  rw [sum_often M _ l h, cntB_sum, ← sumB_mul]
  refine sumB_ext M fun x _ => ?_
  have := h2 x
  have h3 : often l x = 0 ∨ often l x = 1 ∨ often l x = 2 := by omega
  rcases h3 with e | e | e <;> rw [e] <;> rfl
theorem twice_len (M : Nat) (l : List Nat) (h : ∀ x ∈ l, x < M) : 2 * cntB M (fun x => often l x == 2) ≤ l.length := by
  rw [length_often M l h, cntB_sum, ← sumB_mul]
  refine sumB_le M fun x _ => ?_
  by_cases e : often l x = 2
  · rw [e]; decide
  · rw [if_neg (by simpa using e)]; omega
/-- at most two places in a list whose places, of one number, are told apart by a side -/
theorem often_map_range (N : Nat) (f : Nat → Nat) (x : Nat) : often ((List.range N).map f) x = cntB N fun k => f k == x := by
  unfold often cntB
  rw [List.filter_map, List.length_map]; rfl
theorem cntB_two (N : Nat) (p : Nat → Bool) (sd : Nat → Nat) (h2 : ∀ k, sd k < 2) (hi : ∀ i j, i < N → j < N → p i = true → p j = true → sd i = sd j → i = j) : cntB N p ≤ 2 := by
  have h1 : (((List.range N).filter p).map sd).length ≤ (List.range 2).length := by
    refine nodup_len_le _ _ ?_ ?_
    · refine List.pairwise_map.2 (List.Pairwise.imp_of_mem ?_ ((List.nodup_range (n := N)).filter p))
      intro a b ha hb hne e
      obtain ⟨ha1, ha2⟩ := List.mem_filter.1 ha
      obtain ⟨hb1, hb2⟩ := List.mem_filter.1 hb
      exact hne (hi a b (List.mem_range.1 ha1) (List.mem_range.1 hb1) ha2 hb2 e)
    · intro x hx
      obtain ⟨k, _, rfl⟩ := List.mem_map.1 hx
      exact List.mem_range.2 (h2 k)
  rw [List.length_map, List.length_range] at h1
  exact h1

namespace Fd
variable {F : Fd}
theorem way_lt {s : St} (hs : F.Ok s) {N : Nat} (h : ∀ j, j < N → F.exit (F.go s j) = none) : ∀ x ∈ F.way s N, x < F.n * F.m := by
  intro x hx
  obtain ⟨k, hk, rfl⟩ := List.mem_map.1 hx
  exact cellN_lt (go_ok hs h k (by have := List.mem_range.1 hk; omega))
theorem way_two (hn : 1 ≤ F.n) (hm : 1 ≤ F.m) {p N q : Nat} (hp : p < F.ports) (h : F.Ends (F.enter p) N q) (x : Nat) : often (F.way (F.enter p) N) x ≤ 2 := by
  unfold way
  rw [often_map_range]
  refine cntB_two _ _ (fun k => F.side (F.go (F.enter p) k)) (fun k => side_lt _) fun i j hi hj e1 e2 e => ?_
  rw [beq_iff_eq] at e1 e2
  exact way_key hn hm hp h (by omega) (by omega) (by rw [e1, e2]) e
/-- checkers: the sum of row and column turns with each step -/
theorem step_parity {s : St} (hs : F.Ok s) (he : F.exit s = none) : ((F.step s).r + (F.step s).c + s.r + s.c) % 2 = 1 := by
  have h4 := out_lt hs
  obtain ⟨h1, h2, h3⟩ := hs
  unfold exit at he
  unfold step
  by_cases e0 : F.out s = 0
  · rw [if_pos e0] at he ⊢
    have : s.r ≠ 0 := fun e => by rw [if_pos e] at he; cases he
    simp only; omega
  · rw [if_neg e0] at he ⊢
    by_cases e1 : F.out s = 1
    · rw [if_pos e1]; simp only; omega
    · rw [if_neg e1] at he ⊢
      by_cases e2 : F.out s = 2
      · rw [if_pos e2]; simp only; omega
      · rw [if_neg e2] at he ⊢
        have : s.c ≠ 0 := fun e => by rw [if_pos e] at he; cases he
        simp only; omega
theorem go_parity {s : St} (hs : F.Ok s) {N : Nat} (h : ∀ j, j < N → F.exit (F.go s j) = none) : ∀ k, k ≤ N → ((F.go s k).r + (F.go s k).c + s.r + s.c) % 2 = k % 2
  | 0, _ => by show (s.r + s.c + s.r + s.c) % 2 = 0 % 2; omega
  | k + 1, hk => by
    have h1 := go_parity hs h k (by omega)
    have h2 := step_parity (go_ok hs h k (by omega)) (h k (by omega))
    show ((F.step (F.go s k)).r + (F.step (F.go s k)).c + s.r + s.c) % 2 = _
    omega
/-- two steps on, the cell is another one -/
theorem step_two {s : St} (hs : F.Ok s) (he : F.exit s = none) (he2 : F.exit (F.step s) = none) : (F.step (F.step s)).r ≠ s.r ∨ (F.step (F.step s)).c ≠ s.c := by
  have h4 := out_lt hs
  have hok := step_ok hs he
  have h5 := out_lt hok
  have hne : F.out (F.step s) ≠ (F.out s + 2) % 4 := by
    have hd : (F.step s).d = F.out s := by
      unfold step
      have hcase : F.out s = 0 ∨ F.out s = 1 ∨ F.out s = 2 ∨ F.out s = 3 := by omega
      rcases hcase with e | e | e | e <;> rw [e] <;> simp
    have h6 := turnD_ne (F.L (F.step s).r (F.step s).c) (F.step s).d hok.2.2
    have h7 : F.out (F.step s) = turnD (F.L (F.step s).r (F.step s).c) (F.step s).d := rfl
    rw [← h7, hd] at h6
    omega
  unfold exit at he he2
  obtain ⟨s1, h1⟩ : ∃ s1, s1 = F.step s := ⟨_, rfl⟩
  rw [← h1] at he2 hne h5 ⊢
  obtain ⟨o2, ho2⟩ : ∃ o2, o2 = F.out s1 := ⟨_, rfl⟩
  rw [← ho2] at he2 hne h5
  have h2 : F.step s1 = if o2 = 0 then ⟨s1.r - 1, s1.c, 0⟩ else if o2 = 1 then ⟨s1.r, s1.c + 1, 1⟩ else if o2 = 2 then ⟨s1.r + 1, s1.c, 2⟩ else ⟨s1.r, s1.c - 1, 3⟩ := by unfold step; rw [ho2]
  rw [h2]
  have h3 : s1 = if F.out s = 0 then ⟨s.r - 1, s.c, 0⟩ else if F.out s = 1 then ⟨s.r, s.c + 1, 1⟩ else if F.out s = 2 then ⟨s.r + 1, s.c, 2⟩ else ⟨s.r, s.c - 1, 3⟩ := by rw [h1]; rfl
  have hr : (s1.r = if F.out s = 0 then s.r - 1 else if F.out s = 2 then s.r + 1 else s.r) ∧ (s1.c = if F.out s = 1 then s.c + 1 else if F.out s = 3 then s.c - 1 else s.c) := by
    have hcase : F.out s = 0 ∨ F.out s = 1 ∨ F.out s = 2 ∨ F.out s = 3 := by omega
    rw [h3]
    rcases hcase with e | e | e | e <;> rw [e] <;> simp
  obtain ⟨hr1, hr2⟩ := hr
  clear h1 h3 ho2 h2 hok
  have hcase : F.out s = 0 ∨ F.out s = 1 ∨ F.out s = 2 ∨ F.out s = 3 := by omega
  have hcase2 : o2 = 0 ∨ o2 = 1 ∨ o2 = 2 ∨ o2 = 3 := by omega
  rcases hcase with e | e | e | e <;> rcases hcase2 with e2 | e2 | e2 | e2 <;> rw [e] at he hr1 hr2 hne <;> rw [e2] at he2 hne ⊢ <;> simp at he he2 hr1 hr2 hne ⊢ <;> omega
/-- a cell comes again four steps later at the soonest -/
theorem again_late {s : St} (hs : F.Ok s) {N : Nat} (h : ∀ j, j < N → F.exit (F.go s j) = none) {i j : Nat} (hij : i < j) (hj : j ≤ N) (hc : F.cellN (F.go s i) = F.cellN (F.go s j)) : i + 4 ≤ j := by
  have h1 := go_parity hs h i (by omega)
  have h2 := go_parity hs h j hj
  have hoi := go_ok hs h i (by omega)
  have hoj := go_ok hs h j hj
  obtain ⟨e1, e2⟩ := cell_inj hoi.2.1 hoj.2.1 hc
  have hne : j ≠ i + 2 := by
    rintro rfl
    rcases step_two hoi (h i (by omega)) (h (i + 1) (by omega)) with hx | hx
    · exact hx e1.symm
    · exact hx e2.symm
  omega
theorem twice_long (hn : 1 ≤ F.n) (hm : 1 ≤ F.m) {p N q : Nat} (hp : p < F.ports) (h : F.Ends (F.enter p) N q) (hl : N + 1 ≤ 3) (M : Nat) : cntB M (fun x => often (F.way (F.enter p) N) x == 2) = 0 := by
  have hs := enter_ok hn hm hp
  refine cntB_none M fun x _ => beq_eq_false_iff_ne.2 ?_
  unfold way
  rw [often_map_range]
  have h1 : cntB (N + 1) (fun k => F.cellN (F.go (F.enter p) k) == x) ≤ 1 := by
    have : ((((List.range (N + 1)).filter fun k => F.cellN (F.go (F.enter p) k) == x)).map fun _ => 0).length ≤ (List.range 1).length := by
      refine nodup_len_le _ _ ?_ ?_
      · refine List.pairwise_map.2 (List.Pairwise.imp_of_mem ?_ ((List.nodup_range (n := N + 1)).filter _))
        intro a b ha hb hne e
        obtain ⟨ha1, ha2⟩ := List.mem_filter.1 ha
        obtain ⟨hb1, hb2⟩ := List.mem_filter.1 hb
        rw [List.mem_range] at ha1 hb1
        rw [beq_iff_eq] at ha2 hb2
        rcases Nat.lt_or_ge a b with hl | hl
        · have := again_late hs h.on hl (by omega) (by rw [ha2, hb2]); omega
        · have := again_late hs h.on (show b < a by omega) (by omega) (by rw [ha2, hb2]); omega
      · intro x hx
        obtain ⟨k, _, rfl⟩ := List.mem_map.1 hx
        exact List.mem_range.2 (by omega)
    rw [List.length_map, List.length_range] at this
    exact this
  omega
end Fd
end Go.Proofs.Ythjllnabjnjpmaa
