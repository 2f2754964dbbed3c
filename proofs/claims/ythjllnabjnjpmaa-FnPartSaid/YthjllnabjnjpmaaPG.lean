/-
  PLAIN LAWS, NO Go IN SIGHT: mirrors on a way; ways without mirrors; fields of one row or one column.
-/
import Derived.Test.YthjllnabjnjpmaaPF
namespace Go.Proofs.Ythjllnabjnjpmaa
set_option maxRecDepth 100000
namespace Fd
variable {F : Fd}
/-- only these letters -/
def Letters (F : Fd) : Prop := ∀ r c, r < F.n → c < F.m → F.L r c = 46 ∨ F.L r c = 114 ∨ F.L r c = 102
/-- the letter of a cell's number -/
def at_ (F : Fd) (x : Nat) : UInt8 := F.L (x / F.m) (x % F.m)
theorem at_cell {s : St} (hs : F.Ok s) : F.at_ (F.cellN s) = F.L s.r s.c := by
  have h := hs.2.1
  have h1 : (s.r * F.m + s.c) / F.m = s.r := by rw [Nat.mul_comm, Nat.mul_add_div (by omega), Nat.div_eq_of_lt h]; omega
  have h2 : (s.r * F.m + s.c) % F.m = s.c := by rw [Nat.mul_comm, Nat.mul_add_mod, Nat.mod_eq_of_lt h]
  unfold at_ cellN
  rw [h1, h2]
def mirrorsOn (F : Fd) (l : List Nat) : Nat := (l.filter fun x => F.at_ x != 46).length
theorem mirrorsOn_snoc (l : List Nat) (x : Nat) : F.mirrorsOn (l ++ [x]) = F.mirrorsOn l + if F.at_ x != 46 then 1 else 0 := by
  unfold mirrorsOn; rw [List.filter_append, List.length_append]
  congr 1
  by_cases h : (F.at_ x != 46) = true <;> simp [h]
theorem mirrorsOn_le (l : List Nat) : F.mirrorsOn l ≤ l.length := List.length_filter_le _ _
theorem mirrorsOn_reverse (l : List Nat) : F.mirrorsOn l.reverse = F.mirrorsOn l := by
  unfold mirrorsOn; rw [List.filter_reverse, List.length_reverse]
theorem way_succ (s : St) (N : Nat) : F.way s (N + 1) = F.way s N ++ [F.cellN (F.go s (N + 1))] := by
  unfold way; rw [List.range_succ, List.map_append]; rfl
theorem way_zero (s : St) : F.way s 0 = [F.cellN s] := rfl
theorem mirrorsOn_one (x : Nat) : F.mirrorsOn [x] = if F.at_ x != 46 then 1 else 0 := by
  have := mirrorsOn_snoc (F := F) [] x
  rw [List.nil_append] at this
  rw [this]; show 0 + _ = _; omega
theorem out_parity {s : St} (hs : F.Ok s) (hL : F.Letters) : (F.out s) % 2 = (s.d + if F.L s.r s.c != 46 then 1 else 0) % 2 := by
  have hd := hs.2.2
  unfold out
  rcases hL s.r s.c hs.1 hs.2.1 with e | e | e <;> rw [e]
  · show turnD 46 s.d % 2 = (s.d + 0) % 2
    rfl
  · show turnD 114 s.d % 2 = (s.d + 1) % 2
    have : s.d = 0 ∨ s.d = 1 ∨ s.d = 2 ∨ s.d = 3 := by omega
    rcases this with e | e | e | e <;> rw [e] <;> rfl
  · show turnD 102 s.d % 2 = (s.d + 1) % 2
    have : s.d = 0 ∨ s.d = 1 ∨ s.d = 2 ∨ s.d = 3 := by omega
    rcases this with e | e | e | e <;> rw [e] <;> rfl
theorem step_d (s : St) (ho : F.out s < 4) : (F.step s).d = F.out s := by rw [step_eq s ho]
theorem way_parity {s : St} (hs : F.Ok s) (hL : F.Letters) {N : Nat} (h : ∀ j, j < N → F.exit (F.go s j) = none) : ∀ k, k ≤ N → (F.out (F.go s k)) % 2 = (s.d + F.mirrorsOn (F.way s k)) % 2
  | 0, _ => by
    rw [way_zero, mirrorsOn_one, at_cell hs]
    exact out_parity hs hL
  | k + 1, hk => by
    have ih := way_parity hs hL h k (by omega)
    have ho := go_ok hs h k (by omega)
    have ho1 := go_ok hs h (k + 1) hk
    rw [way_succ, mirrorsOn_snoc, at_cell ho1, out_parity ho1 hL]
    have : (F.go s (k + 1)).d = F.out (F.go s k) := step_d _ (out_lt ho)
    rw [this]; omega
/-- a port at an end of a row -/
def rowP (F : Fd) (p : Nat) : Bool := decide (F.m ≤ p ∧ p < F.m + F.n) || decide (2 * F.m + F.n ≤ p)
theorem rowP_enter {p : Nat} (hp : p < F.ports) : F.rowP p = ((F.enter p).d % 2 == 1) := by
  unfold ports at hp
  unfold rowP enter
  by_cases h1 : p < F.m
  · rw [if_pos h1, decide_eq_false (by omega), decide_eq_false (by omega)]; simp
  · rw [if_neg h1]
    by_cases h2 : p < F.m + F.n
    · rw [if_pos h2, decide_eq_true (by omega)]; simp
    · rw [if_neg h2]
      by_cases h3 : p < 2 * F.m + F.n
      · rw [if_pos h3, decide_eq_false (by omega), decide_eq_false (by omega)]; rfl
      · rw [if_neg h3, decide_eq_false (by omega), decide_eq_true (by omega)]; rfl
theorem turns_even (hn : 1 ≤ F.n) (hm : 1 ≤ F.m) (hL : F.Letters) {p N q : Nat} (hp : p < F.ports) (h : F.Ends (F.enter p) N q) :
    (F.mirrorsOn (F.way (F.enter p) N) % 2 == 0) = (F.rowP p == F.rowP q) := by
  have hs := enter_ok hn hm hp
  obtain ⟨hq, he, _⟩ := ends_back hn hm hp h
  have h1 := way_parity hs hL h.on N (Nat.le_refl _)
  have h2 : (F.enter q).d = (F.out (F.go (F.enter p) N) + 2) % 4 := by rw [he]; rfl
  rw [rowP_enter hp, rowP_enter hq, h2]
  have h3 := (enter_ok hn hm hp).2.2
  generalize (F.enter p).d = d at *
  generalize F.out (F.go (F.enter p) N) = o at *
  generalize F.mirrorsOn (F.way (F.enter p) N) = k at *
  have hd : d % 2 = 0 ∨ d % 2 = 1 := by omega
  have hk : k % 2 = 0 ∨ k % 2 = 1 := by omega
  have ho : (o + 2) % 4 % 2 = (d + k) % 2 := by omega
  rw [ho]
  rcases hd with e1 | e1 <;> rcases hk with e2 | e2
  · rw [e1, e2, show (d + k) % 2 = 0 by omega]; rfl
  · rw [e1, e2, show (d + k) % 2 = 1 by omega]; rfl
  · rw [e1, e2, show (d + k) % 2 = 1 by omega]; rfl
  · rw [e1, e2, show (d + k) % 2 = 0 by omega]; rfl
/-! ### straight on -/
theorem straight {s : St} (hs : F.Ok s) {N : Nat} (h : ∀ j, j < N → F.exit (F.go s j) = none) (hd : ∀ j, j < N → F.out (F.go s j) = s.d) : ∀ k, k ≤ N → (F.go s k).d = s.d ∧
    (F.go s k).r + (if s.d = 0 then k else 0) = s.r + (if s.d = 2 then k else 0) ∧ (F.go s k).c + (if s.d = 3 then k else 0) = s.c + (if s.d = 1 then k else 0)
  | 0, _ => by refine ⟨rfl, ?_, ?_⟩ <;> simp [go_zero]
  | k + 1, hk => by
    obtain ⟨h1, h2, h3⟩ := straight hs h hd k (by omega)
    have ho := go_ok hs h k (by omega)
    have h4 := out_lt ho
    have he := (exit_none _ h4).1 (h k (by omega))
    have ho2 := hd k (by omega)
    rw [go_succ, step_eq _ h4]
    rw [ho2] at he h4 ⊢
    have hcase : s.d = 0 ∨ s.d = 1 ∨ s.d = 2 ∨ s.d = 3 := by omega
    obtain ⟨he0, he1, he2, he3⟩ := he
    refine ⟨rfl, ?_, ?_⟩
    · rcases hcase with e | e | e | e <;> rw [e] at h2 he0 <;> simp [e] at h2 he0 ⊢ <;> omega
    · rcases hcase with e | e | e | e <;> rw [e] at h3 he3 <;> simp [e] at h3 he3 ⊢ <;> omega
theorem straight_cells {s : St} (hs : F.Ok s) {N : Nat} (h : ∀ j, j < N → F.exit (F.go s j) = none) (hd : ∀ j, j < N → F.out (F.go s j) = s.d) {i j : Nat} (hi : i ≤ N) (hj : j ≤ N) (hc : F.cellN (F.go s i) = F.cellN (F.go s j)) : i = j := by
  obtain ⟨_, a2, a3⟩ := straight hs h hd i hi
  obtain ⟨_, b2, b3⟩ := straight hs h hd j hj
  obtain ⟨e1, e2⟩ := cell_inj (go_ok hs h i hi).2.1 (go_ok hs h j hj).2.1 hc
  have hd := hs.2.2
  have hcase : s.d = 0 ∨ s.d = 1 ∨ s.d = 2 ∨ s.d = 3 := by omega
  rw [e1] at a2
  rw [e2] at a3
  rcases hcase with e | e | e | e <;> rw [e] at a2 a3 b2 b3 <;> simp at a2 a3 b2 b3 <;> omega
theorem no_mirrors {l : List Nat} (h : F.mirrorsOn l = 0) : ∀ x ∈ l, F.at_ x = 46 := by
  intro x hx
  unfold mirrorsOn at h
  have h2 := List.eq_nil_of_length_eq_zero h
  apply Classical.byContradiction
  intro hne
  have : x ∈ l.filter fun x => F.at_ x != 46 := List.mem_filter.2 ⟨hx, by simpa using hne⟩
  rw [h2] at this; cases this
theorem straight_beam (hn : 1 ≤ F.n) (hm : 1 ≤ F.m) {p N q : Nat} (hp : p < F.ports) (h : F.Ends (F.enter p) N q) (h0 : F.mirrorsOn (F.way (F.enter p) N) = 0) (M : Nat) : cntB M (fun x => often (F.way (F.enter p) N) x == 2) = 0 := by
  have hs := enter_ok hn hm hp
  have hlet : ∀ k, k ≤ N → F.L (F.go (F.enter p) k).r (F.go (F.enter p) k).c = 46 := fun k hk => by
    have := no_mirrors h0 (F.cellN (F.go (F.enter p) k)) (List.mem_map.2 ⟨k, List.mem_range.2 (by omega), rfl⟩)
    rw [at_cell (go_ok hs h.on k hk)] at this; exact this
  have hdir : ∀ k, k ≤ N → (F.go (F.enter p) k).d = (F.enter p).d := fun k => by
    induction k with
    | zero => intro _; rfl
    | succ k ih =>
      intro hk
      rw [go_succ, step_d _ (out_lt (go_ok hs h.on k (by omega)))]
      unfold out
      rw [hlet k (by omega)]
      exact ih (by omega)
  have hd : ∀ j, j < N → F.out (F.go (F.enter p) j) = (F.enter p).d := fun j hj => by
    unfold out
    rw [hlet j (by omega)]
    exact hdir j (by omega)
  refine cntB_none M fun x _ => beq_eq_false_iff_ne.2 ?_
  unfold way
  rw [often_map_range]
  have h1 : cntB (N + 1) (fun k => F.cellN (F.go (F.enter p) k) == x) ≤ 1 := by
    have : ((((List.range (N + 1)).filter fun k => F.cellN (F.go (F.enter p) k) == x)).map fun _ => 0).length ≤ (List.range 1).length := by
      refine nodup_len_le _ _ ?_ ?_
      · refine List.pairwise_map.2 (List.Pairwise.imp_of_mem ?_ ((List.nodup_range (n := N + 1)).filter _))
        intro a b ha hb hne e
        obtain ⟨ha1, ha2⟩ := List.mem_filter.1 ha
        obtain ⟨hb1, hb2⟩ := List.mem_filter.1 hb
        rw [List.mem_range] at ha1 hb1
        rw [beq_iff_eq] at ha2 hb2
        exact hne (straight_cells hs h.on hd (by omega) (by omega) (by rw [ha2, hb2]))
      · intro x hx
        obtain ⟨k, _, rfl⟩ := List.mem_map.1 hx
        exact List.mem_range.2 (by omega)
    rw [List.length_map, List.length_range] at this
    exact this
  omega
/-! ### one row, one column -/
theorem not_back {s : St} (hs : F.Ok s) : F.out s ≠ (s.d + 2) % 4 := by
  have h := turnD_ne (F.L s.r s.c) s.d hs.2.2
  have h4 := out_lt hs
  have h3 := hs.2.2
  have e : F.out s = turnD (F.L s.r s.c) s.d := rfl
  rw [← e] at h
  omega
theorem no_round {s : St} (hs : F.Ok s) (h1 : F.n = 1 ∨ F.m = 1) : ¬ F.IsRound s := by
  rintro ⟨K, hK⟩
  have hs1 : F.Ok (F.go s 1) := comes_ok hs hK 1
  have hK1 : F.Comes (F.go s 1) K := comes_go hs hK 1
  have hpar : ∀ {t : St}, F.Ok t → F.exit t = none → (F.n = 1 → F.out t % 2 = 1) ∧ (F.m = 1 → F.out t % 2 = 0) := fun {t} ht he => by
    have h4 := out_lt ht
    obtain ⟨he0, he1, he2, he3⟩ := (exit_none t h4).1 he
    obtain ⟨k1, k2, k3⟩ := ht
    have hcase : F.out t = 0 ∨ F.out t = 1 ∨ F.out t = 2 ∨ F.out t = 3 := by omega
    rcases hcase with e | e | e | e <;> rw [e] at he0 he1 he2 he3 ⊢ <;> simp at he0 he1 he2 he3 ⊢ <;> omega
  have hd1 : (F.go s 1).d = F.out s := step_d s (out_lt hs)
  have hdir : ∀ k, (F.go (F.go s 1) k).d = (F.go s 1).d ∧ F.out (F.go (F.go s 1) k) = (F.go s 1).d := fun k => by
    induction k with
    | zero =>
      refine ⟨rfl, ?_⟩
      have a := hpar hs (comes_on hK 0)
      have b := hpar hs1 (comes_on hK1 0)
      have c := not_back hs1
      have d := out_lt hs1
      have e := out_lt hs
      rw [hd1] at c
      show F.out (F.go s 1) = _
      rw [hd1]
      rcases h1 with h1 | h1
      · have a := a.1 h1; have b := b.1 h1; omega
      · have a := a.2 h1; have b := b.2 h1; omega
    | succ k ih =>
      have ho := comes_ok hs1 hK1 k
      have ho1 := comes_ok hs1 hK1 (k + 1)
      have h2 : (F.go (F.go s 1) (k + 1)).d = (F.go s 1).d := by
        rw [go_succ, step_d _ (out_lt ho)]; exact ih.2
      refine ⟨h2, ?_⟩
      have a := hpar ho (comes_on hK1 k)
      have b := hpar ho1 (comes_on hK1 (k + 1))
      have c := not_back ho1
      have d := out_lt ho1
      rw [ih.2] at a
      rw [h2] at c
      have e := hs1.2.2
      rcases h1 with h1 | h1
      · have a := a.1 h1; have b := b.1 h1; omega
      · have a := a.2 h1; have b := b.2 h1; omega
  have := straight_cells hs1 (N := K) hK1.on (fun j _ => (hdir j).2) (i := 0) (j := K) (Nat.zero_le _) (Nat.le_refl _) (by rw [hK1.back]; rfl)
  have := hK1.pos
  omega
theorem plain_leads (hm : 1 ≤ F.m) (h1 : F.n = 1 ∨ F.m = 1) : F.leads = [] := by
  apply List.eq_nil_iff_forall_not_mem.2
  intro x hx
  obtain ⟨h2, h3⟩ := mem_leads.1 hx
  exact no_round (st_ok hm h2) h1 h3.1
/-- next cells lie beside each other -/
theorem step_near {s : St} (hs : F.Ok s) (he : F.exit s = none) : ((F.step s).r = s.r ∧ ((F.step s).c = s.c + 1 ∨ (F.step s).c + 1 = s.c)) ∨ ((F.step s).c = s.c ∧ ((F.step s).r = s.r + 1 ∨ (F.step s).r + 1 = s.r)) := by
  have h4 := out_lt hs
  obtain ⟨he0, he1, he2, he3⟩ := (exit_none s h4).1 he
  rw [step_eq s h4]
  have hcase : F.out s = 0 ∨ F.out s = 1 ∨ F.out s = 2 ∨ F.out s = 3 := by omega
  rcases hcase with e | e | e | e <;> rw [e] at he0 he1 he2 he3 ⊢ <;> simp at he0 he1 he2 he3 ⊢ <;> omega
end Fd
end Go.Proofs.Ythjllnabjnjpmaa
