/-
  PLAIN LAWS, NO Go IN SIGHT: ways that end, ways backwards, how often a cell is gone through.
-/
import Derived.Test.YthjllnabjnjpmaaPB
namespace Go.Proofs.Ythjllnabjnjpmaa
set_option maxRecDepth 100000

theorem nodup_len_le {α : Type} [DecidableEq α] : ∀ (l k : List α), l.Nodup → (∀ x ∈ l, x ∈ k) → l.length ≤ k.length
  | [], _, _, _ => Nat.zero_le _
  | a :: t, k, hn, hs => by
    have h1 := List.nodup_cons.1 hn
    have h2 := nodup_len_le t (k.erase a) h1.2 fun x hx => (List.mem_erase_of_ne (fun e => h1.1 (by rw [← e]; exact hx))).2 (hs x (List.mem_cons_of_mem _ hx))
    have h3 := List.length_erase_of_mem (hs a (List.mem_cons_self ..))
    have h4 : 0 < k.length := List.length_pos_of_mem (hs a (List.mem_cons_self ..))
    rw [List.length_cons]; omega
/-- as many different numbers below M as asked for: at most M -/
theorem few_of_inj {M K : Nat} (f : Nat → Nat) (hf : ∀ i, i < K → f i < M) (hi : ∀ i j, i < K → j < K → f i = f j → i = j) : K ≤ M := by
  have h := nodup_len_le ((List.range K).map f) (List.range M) ?_ ?_
  · simpa using h
  · refine List.pairwise_map.2 (List.Pairwise.imp_of_mem ?_ (List.nodup_range (n := K)))
    intro a b ha hb hne e
    exact hne (hi a b (List.mem_range.1 ha) (List.mem_range.1 hb) e)
  · intro x hx
    obtain ⟨i, hi, rfl⟩ := List.mem_map.1 hx
    exact List.mem_range.2 (hf i (List.mem_range.1 hi))

namespace Fd
variable {F : Fd}
theorem step_inj {s t : St} (hs : F.Ok s) (ht : F.Ok t) (es : F.exit s = none) (et : F.exit t = none) (h : F.step s = F.step t) : s = t := by
  have h1 := (back hs es).2
  have h2 := (back ht et).2
  rw [h] at h1
  rw [h1] at h2
  rw [← rev_rev hs, ← rev_rev ht, h2]
theorem exit_enter (hn : 1 ≤ F.n) (hm : 1 ≤ F.m) {p : Nat} (hp : p < F.ports) : F.exit (F.rev (F.enter p)) = some p := by
  have ho := out_rev (enter_ok hn hm hp)
  unfold ports at hp
  unfold exit
  rw [ho]
  unfold enter rev
  by_cases h1 : p < F.m
  · simp only [if_pos h1]; simp
  · by_cases h2 : p < F.m + F.n
    · simp only [if_neg h1, if_pos h2]; simp; omega
    · by_cases h3 : p < 2 * F.m + F.n
      · simp only [if_neg h1, if_neg h2, if_pos h3]; simp; omega
      · simp only [if_neg h1, if_neg h2, if_neg h3]; simp; omega
theorem enter_exit {s : St} (hs : F.Ok s) {q : Nat} (h : F.exit s = some q) : q < F.ports ∧ F.enter q = F.rev s := by
  have h4 := out_lt hs
  obtain ⟨h1, h2, h3⟩ := hs
  unfold exit at h
  unfold ports
  have hrev : F.rev s = ⟨s.r, s.c, (F.out s + 2) % 4⟩ := rfl
  rw [hrev]
  by_cases e0 : F.out s = 0
  · rw [if_pos e0] at h
    by_cases er : s.r = 0
    · rw [if_pos er] at h; injection h with h; subst h
      refine ⟨by omega, ?_⟩
      unfold enter; rw [if_pos h2, e0, er]
    · rw [if_neg er] at h; cases h
  · rw [if_neg e0] at h
    by_cases e1 : F.out s = 1
    · rw [if_pos e1] at h
      by_cases er : s.c + 1 = F.m
      · rw [if_pos er] at h; injection h with h; subst h
        refine ⟨by omega, ?_⟩
        unfold enter; rw [if_neg (by omega), if_pos (by omega), e1]
        congr 1 <;> omega
      · rw [if_neg er] at h; cases h
    · rw [if_neg e1] at h
      by_cases e2 : F.out s = 2
      · rw [if_pos e2] at h
        by_cases er : s.r + 1 = F.n
        · rw [if_pos er] at h; injection h with h; subst h
          refine ⟨by omega, ?_⟩
          unfold enter; rw [if_neg (by omega), if_neg (by omega), if_pos (by omega), e2]
          congr 1 <;> omega
        · rw [if_neg er] at h; cases h
      · rw [if_neg e2] at h
        have e3 : F.out s = 3 := by omega
        by_cases er : s.c = 0
        · rw [if_pos er] at h; injection h with h; subst h
          refine ⟨by omega, ?_⟩
          unfold enter; rw [if_neg (by omega), if_neg (by omega), if_neg (by omega), e3]
          congr 1 <;> omega
        · rw [if_neg er] at h; cases h

/-- k steps behind s -/
def go (F : Fd) (s : St) : Nat → St
  | 0 => s
  | k + 1 => F.step (go F s k)
/-- the way from s goes on for N steps and leaves the field behind the last one, at port q -/
structure Ends (F : Fd) (s : St) (N q : Nat) : Prop where
  on : ∀ j, j < N → F.exit (F.go s j) = none
  off : F.exit (F.go s N) = some q
theorem go_ok {s : St} (hs : F.Ok s) {N : Nat} (h : ∀ j, j < N → F.exit (F.go s j) = none) : ∀ k, k ≤ N → F.Ok (F.go s k)
  | 0, _ => hs
  | k + 1, hk => step_ok (go_ok hs h k (by omega)) (h k (by omega))
theorem go_add (s : St) (a : Nat) : ∀ b, F.go s (a + b) = F.go (F.go s a) b
  | 0 => rfl
  | b + 1 => by show F.step (F.go s (a + b)) = F.step (F.go (F.go s a) b); rw [go_add s a b]
/-- two steps that meet have met before -/
theorem go_meet {s : St} (hs : F.Ok s) {N : Nat} (h : ∀ j, j < N → F.exit (F.go s j) = none) : ∀ i d, i + d ≤ N → F.go s i = F.go s (i + d) → F.go s 0 = F.go s d
  | 0, d, _, e => by rw [Nat.zero_add] at e; exact e
  | i + 1, d, hd, e => by
    have hk : i + 1 + d = (i + d) + 1 := by omega
    rw [hk] at e
    exact go_meet hs h i d (by omega) (step_inj (go_ok hs h i (by omega)) (go_ok hs h (i + d) (by omega)) (h i (by omega)) (h (i + d) (by omega)) e)
def code (F : Fd) (s : St) : Nat := 4 * (s.r * F.m + s.c) + s.d
theorem cell_lt {n m r c : Nat} (hr : r < n) (hc : c < m) : r * m + c < n * m := by
  have h := Nat.mul_le_mul_right m (show r + 1 ≤ n from hr)
  rw [Nat.succ_mul] at h; omega
theorem cell_inj {m r c r' c' : Nat} (hc : c < m) (hc' : c' < m) (h : r * m + c = r' * m + c') : r = r' ∧ c = c' := by
  have h1 : (r * m + c) / m = r := by rw [Nat.mul_comm, Nat.mul_add_div (by omega), Nat.div_eq_of_lt hc]; omega
  have h2 : (r' * m + c') / m = r' := by rw [Nat.mul_comm, Nat.mul_add_div (by omega), Nat.div_eq_of_lt hc']; omega
  have : r = r' := by rw [← h1, ← h2, h]
  subst this
  exact ⟨rfl, by omega⟩
theorem code_lt {s : St} (hs : F.Ok s) : F.code s < 4 * (F.n * F.m) := by
  have := cell_lt hs.1 hs.2.1
  have := hs.2.2
  unfold code; omega
theorem code_inj {s t : St} (hs : F.Ok s) (ht : F.Ok t) (h : F.code s = F.code t) : s = t := by
  unfold code at h
  have h1 := hs.2.2
  have h2 := ht.2.2
  obtain ⟨e1, e2⟩ := cell_inj hs.2.1 ht.2.1 (show s.r * F.m + s.c = t.r * F.m + t.c by omega)
  have e3 : s.d = t.d := by omega
  cases s; cases t; simp only at e1 e2 e3; subst e1; subst e2; subst e3; rfl
/-- an endless way comes back to where it began -/
theorem comes_back {s : St} (hs : F.Ok s) {K : Nat} (hK : 4 * (F.n * F.m) < K) (h : ∀ j, j < K → F.exit (F.go s j) = none) : ∃ d, 0 < d ∧ d ≤ 4 * (F.n * F.m) ∧ F.go s d = s := by
  apply Classical.byContradiction
  intro hno
  have h1 := few_of_inj (M := 4 * (F.n * F.m)) (K := 4 * (F.n * F.m) + 1) (fun i => F.code (F.go s i)) (fun i hi => code_lt (go_ok hs h i (by omega))) ?_
  · omega
  intro i j hi hj e
  have e := code_inj (go_ok hs h i (by omega)) (go_ok hs h j (by omega)) e
  apply Classical.byContradiction
  intro hne
  apply hno
  rcases Nat.lt_or_ge i j with hl | hl
  · refine ⟨j - i, by omega, by omega, ?_⟩
    exact (go_meet hs h i (j - i) (by omega) (by rw [show i + (j - i) = j by omega]; exact e)).symm
  · refine ⟨i - j, by omega, by omega, ?_⟩
    exact (go_meet hs h j (i - j) (by omega) (by rw [show j + (i - j) = i by omega]; exact e.symm)).symm
/-- nothing leads to where a beam enters -/
theorem enter_first (hn : 1 ≤ F.n) (hm : 1 ≤ F.m) {p : Nat} (hp : p < F.ports) {s : St} (hs : F.Ok s) (he : F.exit s = none) : F.step s ≠ F.enter p := by
  intro e
  have h1 := (back hs he).1
  rw [e, exit_enter hn hm hp] at h1
  cases h1
theorem least_of {P : Nat → Prop} [DecidablePred P] : ∀ K, (∃ k, k ≤ K ∧ P k) → ∃ N, N ≤ K ∧ P N ∧ ∀ j, j < N → ¬ P j
  | 0, ⟨k, hk, h⟩ => ⟨0, Nat.le_refl _, by have : k = 0 := by omega
                                           exact this ▸ h, fun j hj => absurd hj (by omega)⟩
  | K + 1, ⟨k, hk, h⟩ => by
    by_cases hp : ∃ k, k ≤ K ∧ P k
    · obtain ⟨N, h1, h2, h3⟩ := least_of K hp
      exact ⟨N, by omega, h2, h3⟩
    · refine ⟨K + 1, Nat.le_refl _, ?_, fun j hj hpj => hp ⟨j, by omega, hpj⟩⟩
      have : k = K + 1 := by
        apply Classical.byContradiction
        intro hne
        exact hp ⟨k, by omega, h⟩
      exact this ▸ h
/-- a beam ends -/
theorem beam_ends (hn : 1 ≤ F.n) (hm : 1 ≤ F.m) {p : Nat} (hp : p < F.ports) : ∃ N q, N ≤ 4 * (F.n * F.m) ∧ F.Ends (F.enter p) N q := by
  have hs := enter_ok hn hm hp
  by_cases hx : ∃ k, k ≤ 4 * (F.n * F.m) ∧ F.exit (F.go (F.enter p) k) ≠ none
  · obtain ⟨N, h1, h2, h3⟩ := least_of (P := fun k => F.exit (F.go (F.enter p) k) ≠ none) _ hx
    cases hq : F.exit (F.go (F.enter p) N) with
    | none => exact absurd hq h2
    | some q => exact ⟨N, q, h1, fun j hj => Classical.byContradiction fun hne => h3 j hj hne, hq⟩
  · exfalso
    have hall : ∀ j, j < 4 * (F.n * F.m) + 1 → F.exit (F.go (F.enter p) j) = none := fun j hj => Classical.byContradiction fun hne => hx ⟨j, by omega, hne⟩
    obtain ⟨d, h1, h2, h3⟩ := comes_back hs (K := 4 * (F.n * F.m) + 1) (by omega) hall
    cases d with
    | zero => omega
    | succ d => exact enter_first hn hm hp (go_ok hs hall d (by omega)) (hall d (by omega)) h3
/-! ### backwards -/
theorem go_back {s : St} (hs : F.Ok s) {N q : Nat} (h : F.Ends s N q) : ∀ k, k ≤ N → F.go (F.rev (F.go s N)) k = F.rev (F.go s (N - k))
  | 0, _ => rfl
  | k + 1, hk => by
    show F.step (F.go (F.rev (F.go s N)) k) = _
    rw [go_back hs h k (by omega)]
    obtain ⟨j, hj⟩ : ∃ j, N - k = j + 1 := ⟨N - k - 1, by omega⟩
    rw [hj, show N - (k + 1) = j by omega]
    exact (back (go_ok hs h.on j (by omega)) (h.on j (by omega))).2
theorem ends_back (hn : 1 ≤ F.n) (hm : 1 ≤ F.m) {p N q : Nat} (hp : p < F.ports) (h : F.Ends (F.enter p) N q) : q < F.ports ∧ F.enter q = F.rev (F.go (F.enter p) N) ∧ F.Ends (F.enter q) N p := by
  have hs := enter_ok hn hm hp
  obtain ⟨h1, h2⟩ := enter_exit (go_ok hs h.on N (Nat.le_refl _)) h.off
  refine ⟨h1, h2, ?_⟩
  rw [h2]
  refine ⟨fun j hj => ?_, ?_⟩
  · rw [go_back hs h j (by omega)]
    obtain ⟨i, hi⟩ : ∃ i, N - j = i + 1 := ⟨N - j - 1, by omega⟩
    rw [hi]
    exact (back (go_ok hs h.on i (by omega)) (h.on i (by omega))).1
  · rw [go_back hs h N (Nat.le_refl _), Nat.sub_self]
    exact exit_enter hn hm hp
/-- no way goes through a step and through its reverse -/
theorem no_rev {s : St} (hs : F.Ok s) {N : Nat} (h : ∀ j, j < N → F.exit (F.go s j) = none) : ∀ D i, i + D ≤ N → F.go s i ≠ F.rev (F.go s (i + D))
  | 0, i, hi, e => rev_ne (go_ok hs h i (by omega)) e.symm
  | 1, i, hi, e => by
    have ho := go_ok hs h i (by omega)
    have he := h i (by omega)
    have e1 : F.rev (F.go s i) = F.step (F.go s i) := by
      rw [e, rev_rev (go_ok hs h (i + 1) (by omega))]
      show F.step (F.go s i) = _
      rw [← e]
    rcases step_cell ho he with hc | hc
    · rw [← e1] at hc; exact hc rfl
    · rw [← e1] at hc; exact hc rfl
  | D + 2, i, hi, e => by
    have hb := (back (go_ok hs h (i + D + 1) (by omega)) (h (i + D + 1) (by omega))).2
    have e2 : F.step (F.go s (i + D + 1)) = F.go s (i + (D + 2)) := rfl
    rw [e2, ← e] at hb
    exact no_rev hs h D (i + 1) (by omega) (by
      show F.step (F.go s i) = _
      rw [hb, show i + 1 + D = i + D + 1 by omega])
theorem no_rev' {s : St} (hs : F.Ok s) {N : Nat} (h : ∀ j, j < N → F.exit (F.go s j) = none) {i j : Nat} (hi : i ≤ N) (hj : j ≤ N) : F.go s i ≠ F.rev (F.go s j) := by
  intro e
  rcases Nat.le_total i j with hl | hl
  · exact no_rev hs h (j - i) i (by omega) (by rw [show i + (j - i) = j by omega]; exact e)
  · refine no_rev hs h (i - j) j (by omega) ?_
    rw [show j + (i - j) = i by omega, e, rev_rev (go_ok hs h j hj)]
theorem end_ne (hn : 1 ≤ F.n) (hm : 1 ≤ F.m) {p N q : Nat} (hp : p < F.ports) (h : F.Ends (F.enter p) N q) : q ≠ p := by
  intro e
  have h2 := (ends_back hn hm hp h).2.1
  rw [e] at h2
  exact no_rev' (enter_ok hn hm hp) h.on (Nat.zero_le N) (Nat.le_refl N) h2
theorem ends_det {s : St} {N N' q q' : Nat} (h : F.Ends s N q) (h' : F.Ends s N' q') : N = N' ∧ q = q' := by
  rcases Nat.lt_trichotomy N N' with hl | hl | hl
  · have := h'.on N hl; rw [h.off] at this; cases this
  · subst hl
    have := h.off
    rw [h'.off] at this
    injection this with this
    exact ⟨rfl, this.symm⟩
  · have := h.on N' hl; rw [h'.off] at this; cases this
/-- no step comes twice on a beam -/
theorem beam_inj (hn : 1 ≤ F.n) (hm : 1 ≤ F.m) {p N q : Nat} (hp : p < F.ports) (h : F.Ends (F.enter p) N q) {i j : Nat} (hi : i ≤ N) (hj : j ≤ N) (e : F.go (F.enter p) i = F.go (F.enter p) j) : i = j := by
  have hs := enter_ok hn hm hp
  have key : ∀ a d, a + (d + 1) ≤ N → F.go (F.enter p) a ≠ F.go (F.enter p) (a + (d + 1)) := fun a d hd e => by
    have := go_meet hs h.on a (d + 1) hd e
    exact enter_first hn hm hp (go_ok hs h.on d (by omega)) (h.on d (by omega)) this.symm
  rcases Nat.lt_trichotomy i j with hl | hl | hl
  · exact absurd (by rw [show i + (j - i - 1 + 1) = j by omega]; exact e) (key i (j - i - 1) (by omega))
  · exact hl
  · exact absurd (by rw [show j + (i - j - 1 + 1) = i by omega]; exact e.symm) (key j (i - j - 1) (by omega))
/-! ### the two ways through a cell -/
def side (F : Fd) (s : St) : Nat := if s.d = 0 ∨ (F.rev s).d = 0 then 0 else 1
theorem turnD_side (b : UInt8) {d d' : Nat} (hd : d < 4) (hd' : d' < 4) (h : (d = 0 ∨ (turnD b d + 2) % 4 = 0) ↔ (d' = 0 ∨ (turnD b d' + 2) % 4 = 0)) : d' = d ∨ d' = (turnD b d + 2) % 4 := by
  have h1 : d = 0 ∨ d = 1 ∨ d = 2 ∨ d = 3 := by omega
  have h2 : d' = 0 ∨ d' = 1 ∨ d' = 2 ∨ d' = 3 := by omega
  rcases turnD_cases b with e | e | e <;> rw [e] at h ⊢ <;> rcases h1 with rfl | rfl | rfl | rfl <;> rcases h2 with rfl | rfl | rfl | rfl <;> first | (left; rfl) | (right; rfl) | (exfalso; revert h; decide)
theorem side_lt (s : St) : F.side s < 2 := by unfold side; split <;> omega
def cellN (F : Fd) (s : St) : Nat := s.r * F.m + s.c
theorem cellN_lt {s : St} (hs : F.Ok s) : F.cellN s < F.n * F.m := cell_lt hs.1 hs.2.1
theorem side_eq {s t : St} (hs : F.Ok s) (ht : F.Ok t) (hc : F.cellN s = F.cellN t) (h : F.side s = F.side t) : t = s ∨ t = F.rev s := by
  obtain ⟨e1, e2⟩ := cell_inj hs.2.1 ht.2.1 hc
  have hb : F.L s.r s.c = F.L t.r t.c := by rw [e1, e2]
  have h1 : (F.rev s).d = (turnD (F.L s.r s.c) s.d + 2) % 4 := rfl
  have h2 : (F.rev t).d = (turnD (F.L s.r s.c) t.d + 2) % 4 := by rw [hb]; rfl
  unfold side at h
  rw [h1, h2] at h
  have hiff : (s.d = 0 ∨ (turnD (F.L s.r s.c) s.d + 2) % 4 = 0) ↔ (t.d = 0 ∨ (turnD (F.L s.r s.c) t.d + 2) % 4 = 0) := by
    by_cases ha : (s.d = 0 ∨ (turnD (F.L s.r s.c) s.d + 2) % 4 = 0) <;> by_cases hb : (t.d = 0 ∨ (turnD (F.L s.r s.c) t.d + 2) % 4 = 0)
    · exact ⟨fun _ => hb, fun _ => ha⟩
    · rw [if_pos ha, if_neg hb] at h; cases h
    · rw [if_neg ha, if_pos hb] at h; cases h
    · exact ⟨fun x => absurd x ha, fun x => absurd x hb⟩
  rcases turnD_side _ hs.2.2 ht.2.2 hiff with e3 | e3
  · left
    cases s; cases t; simp only at e1 e2 e3; subst e1; subst e2; subst e3; rfl
  · right
    have : F.rev s = ⟨s.r, s.c, (turnD (F.L s.r s.c) s.d + 2) % 4⟩ := rfl
    rw [this, e1, e2, ← hb, ← e3]
/-- a way that ends, or comes back, goes through a cell from a side once -/
theorem way_key (hn : 1 ≤ F.n) (hm : 1 ≤ F.m) {p N q : Nat} (hp : p < F.ports) (h : F.Ends (F.enter p) N q) {i j : Nat} (hi : i ≤ N) (hj : j ≤ N) (hc : F.cellN (F.go (F.enter p) i) = F.cellN (F.go (F.enter p) j))
    (hsd : F.side (F.go (F.enter p) i) = F.side (F.go (F.enter p) j)) : i = j := by
  have hs := enter_ok hn hm hp
  rcases side_eq (go_ok hs h.on i hi) (go_ok hs h.on j hj) hc hsd with e | e
  · exact (beam_inj hn hm hp h hj hi e).symm
  · exact absurd e (no_rev' hs h.on hj hi)
theorem beam_len (hn : 1 ≤ F.n) (hm : 1 ≤ F.m) {p N q : Nat} (hp : p < F.ports) (h : F.Ends (F.enter p) N q) : N + 1 ≤ 2 * (F.n * F.m) := by
  have hs := enter_ok hn hm hp
  refine few_of_inj (fun i => 2 * F.cellN (F.go (F.enter p) i) + F.side (F.go (F.enter p) i)) (fun i hi => ?_) (fun i j hi hj e => ?_)
  · have := cellN_lt (go_ok hs h.on i (by omega))
    have := side_lt (F := F) (F.go (F.enter p) i)
    show 2 * _ + _ < _
    omega
  · have h1 := side_lt (F := F) (F.go (F.enter p) i)
    have h2 := side_lt (F := F) (F.go (F.enter p) j)
    replace e : 2 * F.cellN (F.go (F.enter p) i) + F.side (F.go (F.enter p) i) = 2 * F.cellN (F.go (F.enter p) j) + F.side (F.go (F.enter p) j) := e
    exact way_key hn hm hp h (by omega) (by omega) (by omega) (by omega)
/-- the cells of a way -/
def way (F : Fd) (s : St) (N : Nat) : List Nat := (List.range (N + 1)).map fun k => F.cellN (F.go s k)
theorem way_length (s : St) (N : Nat) : (F.way s N).length = N + 1 := by simp [way]
theorem way_get (s : St) (N k : Nat) (hk : k < (F.way s N).length) : (F.way s N)[k] = F.cellN (F.go s k) := by simp [way]
theorem rev_cell (s : St) : F.cellN (F.rev s) = F.cellN s := rfl
theorem way_back (hn : 1 ≤ F.n) (hm : 1 ≤ F.m) {p N q : Nat} (hp : p < F.ports) (h : F.Ends (F.enter p) N q) : F.way (F.enter q) N = (F.way (F.enter p) N).reverse := by
  have hs := enter_ok hn hm hp
  have e := (ends_back hn hm hp h).2.1
  refine List.ext_getElem (by simp [way]) fun k h1 h2 => ?_
  rw [List.getElem_reverse, way_get, way_get, way_length]
  rw [way_length] at h1
  rw [e, go_back hs h k (by omega), rev_cell, show N + 1 - 1 - k = N - k by omega]
end Fd
end Go.Proofs.Ythjllnabjnjpmaa
