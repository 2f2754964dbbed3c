/-
  PLAIN LAWS, NO Go IN SIGHT: the least cell of rounds; how the marks tell it.
-/
import Derived.Test.YthjllnabjnjpmaaPF
namespace Go.Proofs.Ythjllnabjnjpmaa
set_option maxRecDepth 100000
namespace Fd
variable {F : Fd}
noncomputable def leastO (F : Fd) : Option Nat := (List.range (F.n * F.m)).find? fun c => decide (0 < F.times c)
theorem least_some {c : Nat} (hc : c < F.n * F.m) (h : 0 < F.times c) (hall : ∀ b, b < c → F.times b = 0) : F.leastO = some c := by
  unfold leastO
  rw [List.find?_eq_some_iff_getElem]
  refine ⟨by simpa using h, c, by simpa using hc, by simp, fun j hj => ?_⟩
  have := hall j hj
  simp [this]
theorem least_none (hall : ∀ c, c < F.n * F.m → F.times c = 0) : F.leastO = none := by
  unfold leastO
  rw [List.find?_eq_none]
  intro c hc
  have := hall c (List.mem_range.1 hc)
  simp [this]
theorem least_inv {c : Nat} (h : F.leastO = some c) : c < F.n * F.m ∧ 0 < F.times c ∧ ∀ b, b < c → F.times b = 0 := by
  unfold leastO at h
  obtain ⟨h1, k, hk, e, hall⟩ := List.find?_eq_some_iff_getElem.1 h
  rw [List.getElem_range] at e
  subst e
  refine ⟨by simpa using hk, by simpa using h1, fun b hb => ?_⟩
  have := hall b hb
  simpa using this
theorem least_inv_none (h : F.leastO = none) {c : Nat} (hc : c < F.n * F.m) : F.times c = 0 := by
  unfold leastO at h
  have := List.find?_eq_none.1 h c (List.mem_range.2 hc)
  simpa using this
theorem beamed_no (hn : 1 ≤ F.n) (hm : 1 ≤ F.m) {c : Nat} (hc : c < F.n * F.m) (h : ∀ d, d < 4 → F.Beamed (F.st (4 * c + d))) : F.times c = 0 := by
  apply Classical.byContradiction
  intro hne
  obtain ⟨d, hd, hr⟩ := (times_pos hm hc).1 (by omega)
  exact (round_iff hn hm (st_ok hm (by omega))).1 hr (h d hd)
theorem least_code (hn : 1 ≤ F.n) (hm : 1 ≤ F.m) {x : Nat} (hx : x < 4 * (F.n * F.m)) (h : ¬ F.Beamed (F.st x)) (hall : ∀ y, y < x → F.Beamed (F.st y)) : F.leastO = some (x / 4) := by
  refine least_some (by omega) ((times_pos hm (by omega)).2 ⟨x % 4, Nat.mod_lt _ (by decide), ?_⟩) fun b hb => beamed_no hn hm (by omega) fun d hd => hall _ (by omega)
  rw [show 4 * (x / 4) + x % 4 = x by omega]
  exact (round_iff hn hm (st_ok hm hx)).2 h
theorem least_code_none (hn : 1 ≤ F.n) (hm : 1 ≤ F.m) (hall : ∀ y, y < 4 * (F.n * F.m) → F.Beamed (F.st y)) : F.leastO = none :=
  least_none fun c hc => beamed_no hn hm hc fun d hd => hall _ (by omega)
theorem leads_none (hm : 1 ≤ F.m) : F.leads = [] ↔ F.leastO = none := by
  constructor
  · intro h
    refine least_none fun c hc => ?_
    unfold times steps
    rw [h]; rfl
  · intro h
    apply Classical.byContradiction
    intro hne
    obtain ⟨x, hx⟩ := List.exists_mem_of_ne_nil _ hne
    obtain ⟨h1, h2⟩ := mem_leads.1 hx
    have h3 := least_inv_none h (c := x / 4) (by omega)
    have h4 := (times_pos hm (c := x / 4) (by omega)).2 ⟨x % 4, Nat.mod_lt _ (by decide), by rw [show 4 * (x / 4) + x % 4 = x by omega]; exact h2.1⟩
    omega
open Classical in
noncomputable def beamB (F : Fd) (x : Nat) : Bool := decide (F.Beamed (F.st x))
theorem beamB_iff {x : Nat} : F.beamB x = true ↔ F.Beamed (F.st x) := by simp [beamB]
theorem beam_round (hn : 1 ≤ F.n) (hm : 1 ≤ F.m) {x : Nat} (hx : x < 4 * (F.n * F.m)) : F.beamB x = !F.roundB x := by
  have h := round_iff hn hm (st_ok hm hx)
  rw [Bool.eq_iff_iff, beamB_iff, Bool.not_eq_true', ← Bool.not_eq_true, roundB_iff, h]
  exact Classical.not_not.symm
theorem times_beam (hn : 1 ≤ F.n) (hm : 1 ≤ F.m) {c : Nat} (hc : c < F.n * F.m) : F.times c = (cntB 4 fun d => !F.beamB (4 * c + d)) / 2 := by
  rw [times_eq hm hc]
  congr 1
  exact cntB_ext 4 fun d hd => by rw [beam_round hn hm (by omega), Bool.not_not]
end Fd
/-- the rounds of a grid, as the numbers of their leads; the lengths -/
theorem per_zero {F : Fd} {s : St} (h : ¬ F.IsRound s) : F.per s = 0 := by
  have h' : ¬ ∃ K, F.Comes s K := h
  unfold Fd.per; rw [dif_neg h']
theorem per_len {F : Fd} {s : St} (hs : F.Ok s) : F.per s ≤ 4 * (F.n * F.m) := by
  by_cases h : F.IsRound s
  · exact Fd.comes_len hs (Fd.per_comes h)
  · rw [per_zero h]; exact Nat.zero_le _
/-- the leads below x -/
noncomputable def leadsTo (F : Fd) (x : Nat) : List Nat := (List.range x).filter F.leadB
theorem leadsTo_zero (F : Fd) : leadsTo F 0 = [] := rfl
theorem leadsTo_succ (F : Fd) (x : Nat) : leadsTo F (x + 1) = leadsTo F x ++ if F.leadB x then [x] else [] := by
  unfold leadsTo
  rw [List.range_succ, List.filter_append]
  congr 1
  by_cases h : F.leadB x <;> simp [h]
theorem leadsTo_yes {F : Fd} {x : Nat} (h : F.Lead x) : leadsTo F (x + 1) = leadsTo F x ++ [x] := by rw [leadsTo_succ, if_pos (Fd.leadB_iff.2 h)]
theorem leadsTo_no {F : Fd} {x : Nat} (h : ¬ F.Lead x) : leadsTo F (x + 1) = leadsTo F x := by
  rw [leadsTo_succ, if_neg (fun e => h (Fd.leadB_iff.1 e)), List.append_nil]
theorem leadsTo_all (F : Fd) : leadsTo F (4 * (F.n * F.m)) = F.leads := rfl
theorem leadsTo_le (F : Fd) (x : Nat) : (leadsTo F x).length ≤ x := by
  have := List.length_filter_le F.leadB (List.range x)
  rw [List.length_range] at this; exact this
end Go.Proofs.Ythjllnabjnjpmaa
