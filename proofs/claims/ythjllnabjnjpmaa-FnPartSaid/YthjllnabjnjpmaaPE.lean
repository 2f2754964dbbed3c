/-
  PLAIN LAWS, NO Go IN SIGHT: rounds: ways that come back; their classes; how often they go through a cell.
-/
import Derived.Test.YthjllnabjnjpmaaPD
namespace Go.Proofs.Ythjllnabjnjpmaa
set_option maxRecDepth 100000
namespace Fd
variable {F : Fd}
/-- the way from s comes back to s behind K steps for the first time -/
structure Comes (F : Fd) (s : St) (K : Nat) : Prop where
  pos : 0 < K
  on : ∀ j, j < K → F.exit (F.go s j) = none
  back : F.go s K = s
  first : ∀ j, 0 < j → j < K → F.go s j ≠ s
theorem go_zero (s : St) : F.go s 0 = s := rfl
theorem go_succ (s : St) (k : Nat) : F.go s (k + 1) = F.step (F.go s k) := rfl
theorem go_step (s : St) (k : Nat) : F.go (F.step s) k = F.go s (k + 1) := by
  have := go_add (F := F) s 1 k
  rw [Nat.add_comm 1 k] at this
  exact this.symm
theorem fate {s : St} (hs : F.Ok s) : (∃ N q, N ≤ 4 * (F.n * F.m) ∧ F.Ends s N q) ∨ ∃ K, K ≤ 4 * (F.n * F.m) ∧ F.Comes s K := by
  by_cases hx : ∃ k, k ≤ 4 * (F.n * F.m) ∧ F.exit (F.go s k) ≠ none
  · left
    obtain ⟨N, h1, h2, h3⟩ := least_of (P := fun k => F.exit (F.go s k) ≠ none) _ hx
    cases hq : F.exit (F.go s N) with
    | none => exact absurd hq h2
    | some q => exact ⟨N, q, h1, fun j hj => Classical.byContradiction fun hne => h3 j hj hne, hq⟩
  · right
    have hall : ∀ j, j < 4 * (F.n * F.m) + 1 → F.exit (F.go s j) = none := fun j hj => Classical.byContradiction fun hne => hx ⟨j, by omega, hne⟩
    obtain ⟨d, h1, h2, h3⟩ := comes_back hs (K := 4 * (F.n * F.m) + 1) (by omega) hall
    obtain ⟨K, k1, k2, k3⟩ := least_of (P := fun k => 0 < k ∧ F.go s k = s) (4 * (F.n * F.m)) ⟨d, h2, h1, h3⟩
    exact ⟨K, k1, k2.1, fun j hj => hall j (by omega), k2.2, fun j hj hjK e => k3 j hjK ⟨hj, e⟩⟩
theorem go_per {s : St} {K : Nat} (h : F.Comes s K) : ∀ a j, F.go s (a * K + j) = F.go s j
  | 0, j => by rw [Nat.zero_mul, Nat.zero_add]
  | a + 1, j => by
    have e : (a + 1) * K + j = K + (a * K + j) := by rw [Nat.succ_mul]; omega
    rw [e, go_add, h.back, go_per h a j]
theorem go_mod {s : St} {K : Nat} (h : F.Comes s K) (j : Nat) : F.go s j = F.go s (j % K) := by
  have := go_per h (j / K) (j % K)
  rw [Nat.mul_comm, Nat.div_add_mod] at this
  exact this
theorem comes_on {s : St} {K : Nat} (h : F.Comes s K) (j : Nat) : F.exit (F.go s j) = none := by
  rw [go_mod h]; exact h.on _ (Nat.mod_lt _ h.pos)
theorem comes_ok {s : St} {K : Nat} (hs : F.Ok s) (h : F.Comes s K) (j : Nat) : F.Ok (F.go s j) := go_ok hs (N := j) (fun i _ => comes_on h i) j (Nat.le_refl _)
theorem comes_inj {s : St} {K : Nat} (hs : F.Ok s) (h : F.Comes s K) {i j : Nat} (hi : i < K) (hj : j < K) (e : F.go s i = F.go s j) : i = j := by
  have key : ∀ a d, a + (d + 1) < K → F.go s a ≠ F.go s (a + (d + 1)) := fun a d hd e => h.first (d + 1) (by omega) (by omega) (go_meet hs (N := K) h.on a (d + 1) (by omega) e).symm
  rcases Nat.lt_trichotomy i j with hl | hl | hl
  · exact absurd (by rw [show i + (j - i - 1 + 1) = j by omega]; exact e) (key i (j - i - 1) (by omega))
  · exact hl
  · exact absurd (by rw [show j + (i - j - 1 + 1) = i by omega]; exact e.symm) (key j (i - j - 1) (by omega))
theorem comes_step {s : St} {K : Nat} (hs : F.Ok s) (h : F.Comes s K) : F.Comes (F.step s) K := by
  refine ⟨h.pos, fun j _ => by rw [go_step]; exact comes_on h _, ?_, fun j hj hjK e => ?_⟩
  · rw [go_step, go_succ, h.back]
  · rw [go_step] at e
    have h1 := step_inj (comes_ok hs h j) hs (comes_on h j) (comes_on h 0) e
    exact h.first j hj hjK h1
theorem comes_go {s : St} {K : Nat} (hs : F.Ok s) (h : F.Comes s K) : ∀ k, F.Comes (F.go s k) K
  | 0 => h
  | k + 1 => comes_step (comes_ok hs h k) (comes_go hs h k)
theorem go_rev {s : St} {K : Nat} (hs : F.Ok s) (h : F.Comes s K) : ∀ j, j ≤ K → F.go (F.rev s) j = F.rev (F.go s (K - j))
  | 0, _ => by rw [Nat.sub_zero, h.back]; rfl
  | j + 1, hj => by
    rw [go_succ, go_rev hs h j (by omega)]
    obtain ⟨i, hi⟩ : ∃ i, K - j = i + 1 := ⟨K - j - 1, by omega⟩
    rw [hi, show K - (j + 1) = i by omega]
    exact (Fd.back (comes_ok hs h i) (comes_on h i)).2
theorem comes_rev {s : St} {K : Nat} (hs : F.Ok s) (h : F.Comes s K) : F.Comes (F.rev s) K := by
  refine ⟨h.pos, fun j hj => ?_, ?_, fun j hj hjK e => ?_⟩
  · rw [go_rev hs h j (by omega)]
    obtain ⟨i, hi⟩ : ∃ i, K - j = i + 1 := ⟨K - j - 1, by omega⟩
    rw [hi]
    exact (Fd.back (comes_ok hs h i) (comes_on h i)).1
  · rw [go_rev hs h K (Nat.le_refl _), Nat.sub_self]; rfl
  · rw [go_rev hs h j (by omega)] at e
    have e2 := congrArg F.rev e
    rw [rev_rev (comes_ok hs h _), rev_rev hs] at e2
    exact h.first (K - j) (by omega) (by omega) e2
theorem comes_det {s : St} {K K' : Nat} (h : F.Comes s K) (h' : F.Comes s K') : K = K' := by
  rcases Nat.lt_trichotomy K K' with hl | hl | hl
  · exact absurd h.back (h'.first K h.pos hl)
  · exact hl
  · exact absurd h'.back (h.first K' h'.pos hl)
theorem comes_norev {s : St} {K : Nat} (hs : F.Ok s) (h : F.Comes s K) (i j : Nat) : F.go s i ≠ F.rev (F.go s j) :=
  no_rev' hs (N := i + j) (fun k _ => comes_on h k) (by omega) (by omega)
theorem ends_not_comes {s : St} {N q K : Nat} (h : F.Ends s N q) (h' : F.Comes s K) : False := by
  have := comes_on h' N
  rw [h.off] at this; cases this
theorem comes_len {s : St} (hs : F.Ok s) {K : Nat} (h : F.Comes s K) : K ≤ 4 * (F.n * F.m) := by
  rcases fate hs with ⟨N, q, _, he⟩ | ⟨K', hK, hc⟩
  · exact (ends_not_comes he h).elim
  · rw [comes_det h hc]; exact hK
/-- on a beam -/
def Beamed (F : Fd) (s : St) : Prop := ∃ p, p < F.ports ∧ ∃ N q k, F.Ends (F.enter p) N q ∧ k ≤ N ∧ s = F.go (F.enter p) k
theorem ends_tail {s : St} {N q k : Nat} (h : F.Ends s N q) (hk : k ≤ N) : F.Ends (F.go s k) (N - k) q := by
  refine ⟨fun j hj => ?_, ?_⟩
  · rw [← go_add]; exact h.on _ (by omega)
  · rw [← go_add, show k + (N - k) = N by omega]; exact h.off
theorem beamed_iff (hn : 1 ≤ F.n) (hm : 1 ≤ F.m) {s : St} (hs : F.Ok s) : F.Beamed s ↔ ∃ N q, F.Ends s N q := by
  constructor
  · rintro ⟨p, hp, N, q, k, h, hk, rfl⟩
    exact ⟨_, _, ends_tail h hk⟩
  · rintro ⟨N, q, h⟩
    obtain ⟨h1, h2⟩ := enter_exit (go_ok hs h.on N (Nat.le_refl _)) h.off
    -- the beam of q goes through rev s behind N steps
    have h3 : F.go (F.enter q) N = F.rev s := by rw [h2, go_back hs h N (Nat.le_refl _), Nat.sub_self]; rfl
    obtain ⟨N2, p, _, h4⟩ := beam_ends hn hm h1
    have hle : N ≤ N2 := by
      apply Classical.byContradiction
      intro hlt
      have h5 : F.exit (F.go (F.enter q) N2) = none := by
        rw [h2, go_back hs h N2 (by omega)]
        obtain ⟨i, hi⟩ : ∃ i, N - N2 = i + 1 := ⟨N - N2 - 1, by omega⟩
        rw [hi]
        exact (Fd.back (go_ok hs h.on i (by omega)) (h.on i (by omega))).1
      rw [h4.off] at h5; cases h5
    obtain ⟨h6, h7, h8⟩ := ends_back hn hm h1 h4
    refine ⟨p, h6, N2, q, N2 - N, h8, by omega, ?_⟩
    rw [h7, go_back (enter_ok hn hm h1) h4 _ (by omega), show N2 - (N2 - N) = N by omega, h3, rev_rev hs]
def IsRound (F : Fd) (s : St) : Prop := ∃ K, F.Comes s K
theorem round_iff (hn : 1 ≤ F.n) (hm : 1 ≤ F.m) {s : St} (hs : F.Ok s) : F.IsRound s ↔ ¬ F.Beamed s := by
  rw [beamed_iff hn hm hs]
  constructor
  · rintro ⟨K, h⟩ ⟨N, q, he⟩; exact ends_not_comes he h
  · intro h
    rcases fate hs with ⟨N, q, _, he⟩ | ⟨K, _, hc⟩
    · exact absurd ⟨N, q, he⟩ h
    · exact ⟨K, hc⟩
/-! ### the same round, whichever way it is gone -/
def Same (F : Fd) (s t : St) : Prop := ∃ k, t = F.go s k ∨ t = F.rev (F.go s k)
theorem same_refl (s : St) : F.Same s s := ⟨0, .inl rfl⟩
theorem same_ok {s t : St} (hs : F.Ok s) (hr : F.IsRound s) (h : F.Same s t) : F.Ok t := by
  obtain ⟨K, hK⟩ := hr
  obtain ⟨k, rfl | rfl⟩ := h
  · exact comes_ok hs hK k
  · exact rev_ok (comes_ok hs hK k)
theorem same_comes {s t : St} (hs : F.Ok s) {K : Nat} (hK : F.Comes s K) (h : F.Same s t) : F.Comes t K := by
  obtain ⟨k, rfl | rfl⟩ := h
  · exact comes_go hs hK k
  · exact comes_rev (comes_ok hs hK k) (comes_go hs hK k)
theorem same_round {s t : St} (hs : F.Ok s) (hr : F.IsRound s) (h : F.Same s t) : F.IsRound t := by
  obtain ⟨K, hK⟩ := hr
  exact ⟨K, same_comes hs hK h⟩
theorem go_rev_some {s : St} (hs : F.Ok s) (hr : F.IsRound s) (j : Nat) : ∃ i, F.go (F.rev s) j = F.rev (F.go s i) := by
  obtain ⟨K, hK⟩ := hr
  exact ⟨K - j % K, by rw [go_mod (comes_rev hs hK) j, go_rev hs hK _ (Nat.le_of_lt (Nat.mod_lt _ hK.pos))]⟩
theorem same_trans {s t u : St} (hs : F.Ok s) (hr : F.IsRound s) (h : F.Same s t) (h' : F.Same t u) : F.Same s u := by
  obtain ⟨k, ht⟩ := h
  obtain ⟨j, hu⟩ := h'
  obtain ⟨K, hK⟩ := hr
  have hk := comes_ok hs hK k
  have hkr : F.IsRound (F.go s k) := ⟨K, comes_go hs hK k⟩
  rcases ht with rfl | rfl
  · rw [← go_add] at hu
    exact ⟨k + j, hu⟩
  · obtain ⟨i, hi⟩ := go_rev_some hk hkr j
    rw [hi, ← go_add] at hu
    rw [rev_rev (comes_ok hs hK (k + i))] at hu
    exact ⟨k + i, hu.symm⟩
theorem same_symm {s t : St} (hs : F.Ok s) (hr : F.IsRound s) (h : F.Same s t) : F.Same t s := by
  obtain ⟨K, hK⟩ := hr
  obtain ⟨k, ht⟩ := h
  have hb : F.go (F.go s k) (k * (K - 1)) = s := by
    rw [← go_add]
    obtain ⟨J, rfl⟩ : ∃ J, K = J + 1 := ⟨K - 1, by have := hK.pos; omega⟩
    have := go_per hK k 0
    rw [go_zero, Nat.add_zero, Nat.mul_succ] at this
    rw [Nat.add_sub_cancel, Nat.add_comm]; exact this
  have hk := comes_ok hs hK k
  rcases ht with rfl | rfl
  · exact ⟨_, .inl hb.symm⟩
  · obtain ⟨i, hi⟩ := go_rev_some hk ⟨K, comes_go hs hK k⟩ (K - k * (K - 1) % K)
    -- back the other way
    have h1 : F.go (F.rev (F.go s k)) (K - k * (K - 1) % K) = F.rev (F.go (F.go s k) (K - (K - k * (K - 1) % K))) := go_rev hk (comes_go hs hK k) _ (Nat.sub_le _ _)
    have h2 : K - (K - k * (K - 1) % K) = k * (K - 1) % K := by have := Nat.mod_lt (k * (K - 1)) hK.pos; omega
    rw [h2, ← go_mod (comes_go hs hK k), hb] at h1
    exact ⟨_, .inr (by rw [h1, rev_rev hs])⟩
/-! ### leads -/
def st (F : Fd) (x : Nat) : St := ⟨x / 4 / F.m, x / 4 % F.m, x % 4⟩
theorem st_ok (hm : 1 ≤ F.m) {x : Nat} (hx : x < 4 * (F.n * F.m)) : F.Ok (F.st x) := by
  refine ⟨?_, Nat.mod_lt _ (by omega), Nat.mod_lt _ (by decide)⟩
  show x / 4 / F.m < F.n
  rw [Nat.div_lt_iff_lt_mul (by omega)]; omega
theorem code_st (_hm : 1 ≤ F.m) (x : Nat) : F.code (F.st x) = x := by
  show 4 * (x / 4 / F.m * F.m + x / 4 % F.m) + x % 4 = x
  rw [Nat.mul_comm (x / 4 / F.m), Nat.div_add_mod]; omega
theorem st_code {s : St} (hs : F.Ok s) : F.st (F.code s) = s := by
  have hm : 1 ≤ F.m := by have := hs.2.1; omega
  exact code_inj (st_ok hm (code_lt hs)) hs (code_st hm _)
/-- the least number of its round, whichever way it is gone -/
def Lead (F : Fd) (x : Nat) : Prop := F.IsRound (F.st x) ∧ ∀ y, y < x → F.IsRound (F.st y) → ¬ F.Same (F.st y) (F.st x)
open Classical in
noncomputable def leadB (F : Fd) (x : Nat) : Bool := decide (F.Lead x)
theorem leadB_iff {x : Nat} : F.leadB x = true ↔ F.Lead x := by simp [leadB]
noncomputable def leads (F : Fd) : List Nat := (List.range (4 * (F.n * F.m))).filter F.leadB
theorem mem_leads {x : Nat} : x ∈ F.leads ↔ x < 4 * (F.n * F.m) ∧ F.Lead x := by
  unfold leads; rw [List.mem_filter, List.mem_range, leadB_iff]
theorem lead_of {s : St} (hs : F.Ok s) (hr : F.IsRound s) : ∃ x, x ≤ F.code s ∧ F.Lead x ∧ F.Same (F.st x) s := by
  have hm : 1 ≤ F.m := by have := hs.2.1; omega
  have hx : ∃ x, x ≤ F.code s ∧ (F.IsRound (F.st x) ∧ F.Same (F.st x) s) := ⟨F.code s, Nat.le_refl _, by rw [st_code hs]; exact ⟨hr, same_refl s⟩⟩
  haveI : DecidablePred (fun x => F.IsRound (F.st x) ∧ F.Same (F.st x) s) := fun _ => Classical.propDecidable _
  obtain ⟨x, h1, h2, h3⟩ := least_of (P := fun x => F.IsRound (F.st x) ∧ F.Same (F.st x) s) _ hx
  have hlt : ∀ y, y ≤ F.code s → y < 4 * (F.n * F.m) := fun y hy => Nat.lt_of_le_of_lt hy (code_lt hs)
  exact ⟨x, h1, ⟨h2.1, fun y hy hyr hsame => h3 y hy ⟨hyr, same_trans (st_ok hm (hlt y (by omega))) hyr hsame h2.2⟩⟩, h2.2⟩
theorem lead_uniq {x y : Nat} (hm : 1 ≤ F.m) (hx : x < 4 * (F.n * F.m)) (_hy : y < 4 * (F.n * F.m)) (h1 : F.Lead x) (h2 : F.Lead y) (h : F.Same (F.st x) (F.st y)) : x = y := by
  rcases Nat.lt_trichotomy x y with hl | hl | hl
  · exact absurd h (h2.2 x hl h1.1)
  · exact hl
  · exact absurd (same_symm (st_ok hm hx) h1.1 h) (h1.2 y hl h2.1)
/-- what is marked ahead of number x -/
def Marked (F : Fd) (x : Nat) (t : St) : Prop := F.Beamed t ∨ ∃ y, y < x ∧ F.Lead y ∧ F.Same (F.st y) t
theorem marked_lead (hn : 1 ≤ F.n) (hm : 1 ≤ F.m) {x : Nat} (hx : x < 4 * (F.n * F.m)) : F.Lead x ↔ ¬ F.Marked x (F.st x) := by
  have hok := st_ok hm hx
  constructor
  · rintro h (hb | ⟨y, hy, hl, hs⟩)
    · exact (round_iff hn hm hok).1 h.1 hb
    · exact h.2 y hy hl.1 hs
  · intro h
    have hr : F.IsRound (F.st x) := (round_iff hn hm hok).2 fun hb => h (.inl hb)
    obtain ⟨y, hy, hl, hs⟩ := lead_of hok hr
    rw [code_st hm] at hy
    rcases Nat.lt_or_ge y x with hlt | hge
    · exact absurd (.inr ⟨y, hlt, hl, hs⟩) h
    · have : y = x := by omega
      exact this ▸ hl
theorem marked_succ {x : Nat} {t : St} : F.Marked (x + 1) t ↔ F.Marked x t ∨ (F.Lead x ∧ F.Same (F.st x) t) := by
  constructor
  · rintro (hb | ⟨y, hy, hl, hs⟩)
    · exact .inl (.inl hb)
    · rcases Nat.lt_or_ge y x with h | h
      · exact .inl (.inr ⟨y, h, hl, hs⟩)
      · have : y = x := by omega
        subst this; exact .inr ⟨hl, hs⟩
  · rintro ((hb | ⟨y, hy, hl, hs⟩) | ⟨hl, hs⟩)
    · exact .inl hb
    · exact .inr ⟨y, by omega, hl, hs⟩
    · exact .inr ⟨x, by omega, hl, hs⟩
open Classical in
noncomputable def per (F : Fd) (s : St) : Nat := if h : ∃ K, F.Comes s K then Classical.choose h else 0
theorem per_comes {s : St} (h : F.IsRound s) : F.Comes s (F.per s) := by
  have h' : ∃ K, F.Comes s K := h
  unfold per
  rw [dif_pos h']; exact Classical.choose_spec h'
theorem per_eq {s : St} {K : Nat} (h : F.Comes s K) : F.per s = K := comes_det (per_comes ⟨K, h⟩) h
theorem same_per {s t : St} (hs : F.Ok s) (hr : F.IsRound s) (h : F.Same s t) : F.per t = F.per s := per_eq (same_comes hs (per_comes hr) h)
noncomputable def orbit (F : Fd) (s : St) : List St := (List.range (F.per s)).map (F.go s)
theorem orbit_length (s : St) : (F.orbit s).length = F.per s := by simp [orbit]
theorem orbit_nodup {s : St} (hs : F.Ok s) (hr : F.IsRound s) : (F.orbit s).Nodup := by
  refine List.pairwise_map.2 (List.Pairwise.imp_of_mem ?_ (List.nodup_range (n := F.per s)))
  intro a b ha hb hne e
  exact hne (comes_inj hs (per_comes hr) (List.mem_range.1 ha) (List.mem_range.1 hb) e)
theorem mem_orbit {s t : St} (hr : F.IsRound s) : t ∈ F.orbit s ↔ ∃ k, t = F.go s k := by
  unfold orbit
  rw [List.mem_map]
  constructor
  · rintro ⟨k, _, rfl⟩; exact ⟨k, rfl⟩
  · rintro ⟨k, rfl⟩
    exact ⟨k % F.per s, List.mem_range.2 (Nat.mod_lt _ (per_comes hr).pos), (go_mod (per_comes hr) k).symm⟩
theorem same_orbit {s t : St} (hr : F.IsRound s) : F.Same s t ↔ t ∈ F.orbit s ∨ t ∈ (F.orbit s).map F.rev := by
  rw [mem_orbit hr, List.mem_map]
  constructor
  · rintro ⟨k, h | h⟩
    · exact .inl ⟨k, h⟩
    · exact .inr ⟨_, (mem_orbit hr).2 ⟨k, rfl⟩, h.symm⟩
  · rintro (⟨k, h⟩ | ⟨u, hu, h⟩)
    · exact ⟨k, .inl h⟩
    · obtain ⟨k, rfl⟩ := (mem_orbit hr).1 hu
      exact ⟨k, .inr h.symm⟩
/-! ### all steps of all rounds -/
noncomputable def steps (F : Fd) : List St := F.leads.flatMap fun x => F.orbit (F.st x)
theorem mem_steps {t : St} : t ∈ F.steps ↔ ∃ x, x ∈ F.leads ∧ ∃ k, t = F.go (F.st x) k := by
  unfold steps
  rw [List.mem_flatMap]
  constructor
  · rintro ⟨x, hx, ht⟩
    exact ⟨x, hx, (mem_orbit (mem_leads.1 hx).2.1).1 ht⟩
  · rintro ⟨x, hx, ht⟩
    exact ⟨x, hx, (mem_orbit (mem_leads.1 hx).2.1).2 ht⟩
theorem steps_ok (hm : 1 ≤ F.m) {t : St} (h : t ∈ F.steps) : F.Ok t ∧ F.IsRound t := by
  obtain ⟨x, hx, k, rfl⟩ := mem_steps.1 h
  obtain ⟨h1, h2⟩ := mem_leads.1 hx
  have hK := per_comes h2.1
  exact ⟨comes_ok (st_ok hm h1) hK k, _, comes_go (st_ok hm h1) hK k⟩
theorem steps_nodup (hm : 1 ≤ F.m) : F.steps.Nodup := by
  unfold steps
  have hl : F.leads.Nodup := (List.nodup_range).filter _
  have hmem : ∀ x ∈ F.leads, x < 4 * (F.n * F.m) ∧ F.Lead x := fun x hx => mem_leads.1 hx
  generalize F.leads = L at hl hmem
  induction L with
  | nil => exact List.nodup_nil
  | cons x L ih =>
    rw [List.flatMap_cons]
    have h1 := List.nodup_cons.1 hl
    obtain ⟨hx1, hx2⟩ := hmem x (List.mem_cons_self ..)
    refine List.nodup_append.2 ⟨orbit_nodup (st_ok hm hx1) hx2.1, ih h1.2 fun y hy => hmem y (List.mem_cons_of_mem _ hy), ?_⟩
    intro a ha b hb e
    subst e
    obtain ⟨y, hy, hb⟩ := List.mem_flatMap.1 hb
    obtain ⟨hy1, hy2⟩ := hmem y (List.mem_cons_of_mem _ hy)
    obtain ⟨k, rfl⟩ := (mem_orbit hx2.1).1 ha
    obtain ⟨j, hj⟩ := (mem_orbit hy2.1).1 hb
    have hs1 : F.Same (F.st x) (F.go (F.st x) k) := ⟨k, .inl rfl⟩
    have hs2 : F.Same (F.st y) (F.go (F.st x) k) := ⟨j, .inl hj⟩
    have := same_trans (st_ok hm hx1) hx2.1 hs1 (same_symm (st_ok hm hy1) hy2.1 hs2)
    have := lead_uniq hm hx1 hy1 hx2 hy2 this
    subst this; exact h1.1 hy
theorem steps_norev (hm : 1 ≤ F.m) {t : St} (h : t ∈ F.steps) : F.rev t ∉ F.steps := by
  intro h'
  obtain ⟨x, hx, k, rfl⟩ := mem_steps.1 h
  obtain ⟨y, hy, j, hj⟩ := mem_steps.1 h'
  obtain ⟨hx1, hx2⟩ := mem_leads.1 hx
  obtain ⟨hy1, hy2⟩ := mem_leads.1 hy
  have hs1 : F.Same (F.st x) (F.rev (F.go (F.st x) k)) := ⟨k, .inr rfl⟩
  have hs2 : F.Same (F.st y) (F.rev (F.go (F.st x) k)) := ⟨j, .inl hj⟩
  have := lead_uniq hm hx1 hy1 hx2 hy2 (same_trans (st_ok hm hx1) hx2.1 hs1 (same_symm (st_ok hm hy1) hy2.1 hs2))
  subst this
  exact comes_norev (st_ok hm hx1) (per_comes hx2.1) j k hj.symm
theorem steps_all {t : St} (ht : F.Ok t) (hr : F.IsRound t) : t ∈ F.steps ∨ F.rev t ∈ F.steps := by
  obtain ⟨x, h1, h2, k, h3⟩ := lead_of ht hr
  have hx : x ∈ F.leads := mem_leads.2 ⟨Nat.lt_of_le_of_lt h1 (code_lt ht), h2⟩
  rcases h3 with h3 | h3
  · exact .inl (mem_steps.2 ⟨x, hx, k, h3⟩)
  · right
    have hm : 1 ≤ F.m := by have := ht.2.1; omega
    have hok := st_ok hm (mem_leads.1 hx).1
    rw [h3, rev_rev (comes_ok hok (per_comes h2.1) k)]
    exact mem_steps.2 ⟨x, hx, k, rfl⟩
/-- how often rounds go through a cell -/
noncomputable def times (F : Fd) (c : Nat) : Nat := often (F.steps.map F.cellN) c
open Classical in
noncomputable def roundB (F : Fd) (x : Nat) : Bool := decide (F.IsRound (F.st x))
theorem roundB_iff {x : Nat} : F.roundB x = true ↔ F.IsRound (F.st x) := by simp [roundB]
theorem often_map (l : List St) (f : St → Nat) (x : Nat) : often (l.map f) x = (l.filter fun s => f s == x).length := by
  unfold often
  rw [List.filter_map, List.length_map]; rfl
theorem times_twice (hm : 1 ≤ F.m) {c : Nat} (hc : c < F.n * F.m) : 2 * F.times c = cntB 4 fun d => F.roundB (4 * c + d) := by
  have e1 : 2 * F.times c = (((F.steps ++ F.steps.map F.rev)).filter fun s => F.cellN s == c).length := by
    unfold times
    rw [List.filter_append, List.length_append, often_map, List.filter_map, List.length_map]
    have : (fun s => F.cellN s == c) ∘ F.rev = fun s => F.cellN s == c := rfl
    rw [this]; omega
  have hst : ∀ d, d < 4 → F.st (4 * c + d) = ⟨c / F.m, c % F.m, d⟩ := fun d hd => by
    unfold st
    rw [show (4 * c + d) / 4 = c by omega, show (4 * c + d) % 4 = d by omega]
  have e2 : (cntB 4 fun d => F.roundB (4 * c + d)) = (((List.range 4).filter fun d => F.roundB (4 * c + d)).map fun d => F.st (4 * c + d)).length := by rw [List.length_map]; rfl
  rw [e1, e2]
  have hnd : (F.steps ++ F.steps.map F.rev).Nodup := by
    refine List.nodup_append.2 ⟨steps_nodup hm, ?_, ?_⟩
    · refine List.pairwise_map.2 (List.Pairwise.imp_of_mem ?_ (steps_nodup hm))
      intro a b ha hb hne e
      have := congrArg F.rev e
      rw [rev_rev (steps_ok hm ha).1, rev_rev (steps_ok hm hb).1] at this
      exact hne this
    · intro a ha b hb e
      subst e
      obtain ⟨u, hu, rfl⟩ := List.mem_map.1 hb
      exact steps_norev hm hu ha
  apply Nat.le_antisymm
  · refine nodup_len_le _ _ (hnd.filter _) fun t ht => ?_
    obtain ⟨h1, h2⟩ := List.mem_filter.1 ht
    rw [beq_iff_eq] at h2
    have h3 : F.Ok t ∧ F.IsRound t := by
      rcases List.mem_append.1 h1 with h | h
      · exact steps_ok hm h
      · obtain ⟨u, hu, rfl⟩ := List.mem_map.1 h
        obtain ⟨k1, K, k2⟩ := steps_ok hm hu
        exact ⟨rev_ok k1, K, comes_rev k1 k2⟩
    have hd := h3.1.2.2
    have hco : F.code t = 4 * c + t.d := by rw [← h2]; rfl
    refine List.mem_map.2 ⟨t.d, List.mem_filter.2 ⟨List.mem_range.2 hd, ?_⟩, ?_⟩
    · rw [roundB_iff, ← hco, st_code h3.1]; exact h3.2
    · show F.st (4 * c + t.d) = t
      rw [← hco, st_code h3.1]
  · refine nodup_len_le _ _ ?_ fun t ht => ?_
    · refine List.pairwise_map.2 (List.Pairwise.imp_of_mem ?_ ((List.nodup_range (n := 4)).filter _))
      intro a b ha hb hne e
      have ha := List.mem_range.1 (List.mem_filter.1 ha).1
      have hb := List.mem_range.1 (List.mem_filter.1 hb).1
      rw [hst a ha, hst b hb] at e
      injection e with _ _ e
      exact hne e
    · obtain ⟨d, hd, rfl⟩ := List.mem_map.1 ht
      obtain ⟨h1, h2⟩ := List.mem_filter.1 hd
      have h1 := List.mem_range.1 h1
      have hok : F.Ok (F.st (4 * c + d)) := st_ok hm (by omega)
      refine List.mem_filter.2 ⟨?_, ?_⟩
      · rcases steps_all hok (roundB_iff.1 h2) with h | h
        · exact List.mem_append.2 (.inl h)
        · exact List.mem_append.2 (.inr (List.mem_map.2 ⟨_, h, rev_rev hok⟩))
      · rw [hst d h1, beq_iff_eq]
        show c / F.m * F.m + c % F.m = c
        rw [Nat.mul_comm, Nat.div_add_mod]
theorem times_eq (hm : 1 ≤ F.m) {c : Nat} (hc : c < F.n * F.m) : F.times c = (cntB 4 fun d => F.roundB (4 * c + d)) / 2 := by
  have := times_twice hm hc; omega
theorem times_le (hm : 1 ≤ F.m) {c : Nat} (hc : c < F.n * F.m) : F.times c ≤ 2 := by
  have := times_twice hm hc
  have := cntB_le 4 fun d => F.roundB (4 * c + d)
  omega
theorem times_pos (hm : 1 ≤ F.m) {c : Nat} (hc : c < F.n * F.m) : 0 < F.times c ↔ ∃ d, d < 4 ∧ F.IsRound (F.st (4 * c + d)) := by
  have h := times_twice hm hc
  constructor
  · intro hp
    apply Classical.byContradiction
    intro hno
    have : (cntB 4 fun d => F.roundB (4 * c + d)) = 0 := cntB_none 4 fun d hd => by
      cases hb : F.roundB (4 * c + d) with
      | false => rfl
      | true => exact absurd ⟨d, hd, roundB_iff.1 hb⟩ hno
    omega
  · rintro ⟨d, hd, hr⟩
    apply Classical.byContradiction
    intro hno
    have h0 : (cntB 4 fun d => F.roundB (4 * c + d)) = 0 := by omega
    unfold cntB at h0
    have := List.eq_nil_of_length_eq_zero h0
    have hmem : d ∈ (List.range 4).filter fun d => F.roundB (4 * c + d) := List.mem_filter.2 ⟨List.mem_range.2 hd, roundB_iff.2 hr⟩
    rw [this] at hmem; cases hmem
/-- the lengths of all rounds -/
noncomputable def lens (F : Fd) : List Nat := F.leads.map fun x => F.per (F.st x)
theorem lens_sum (hm : 1 ≤ F.m) : F.lens.sum = sumB (F.n * F.m) F.times := by
  have h1 : F.lens.sum = F.steps.length := by
    unfold lens steps
    rw [List.length_flatMap]
    congr 1
    exact List.map_congr_left fun x _ => (orbit_length _).symm
  have h2 : F.steps.length = (F.steps.map F.cellN).length := (List.length_map ..).symm
  rw [h1, h2]
  exact length_often _ _ fun x hx => by
    obtain ⟨t, ht, rfl⟩ := List.mem_map.1 hx
    exact cellN_lt (steps_ok hm ht).1
/-- a round has four steps at least -/
theorem per_four {s : St} (hs : F.Ok s) (hr : F.IsRound s) : 4 ≤ F.per s := by
  have h := per_comes hr
  have h2 := again_late hs (N := F.per s) h.on (i := 0) (j := F.per s) h.pos (Nat.le_refl _) (by rw [h.back, go_zero])
  omega
theorem leads_few (hm : 1 ≤ F.m) : 2 * F.leads.length ≤ F.n * F.m := by
  have h1 := lens_sum (F := F) hm
  have h2 : sumB (F.n * F.m) F.times ≤ sumB (F.n * F.m) fun _ => 2 := sumB_le _ fun c hc => times_le hm hc
  rw [sumB_const] at h2
  have h3 : 4 * F.leads.length ≤ F.lens.sum := by
    unfold lens
    have hmem : ∀ x ∈ F.leads, 4 ≤ F.per (F.st x) := fun x hx => per_four (st_ok hm (mem_leads.1 hx).1) (mem_leads.1 hx).2.1
    generalize F.leads = L at hmem
    induction L with
    | nil => exact Nat.le_refl _
    | cons a L ih =>
      rw [List.map_cons, List.sum_cons, List.length_cons]
      have := hmem a (List.mem_cons_self ..)
      have := ih fun x hx => hmem x (List.mem_cons_of_mem _ hx)
      omega
  omega
end Fd
end Go.Proofs.Ythjllnabjnjpmaa
