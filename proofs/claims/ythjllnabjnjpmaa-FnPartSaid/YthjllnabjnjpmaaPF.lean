/-
  PLAIN LAWS, NO Go IN SIGHT: fields turned and flipped have as many rounds.
-/
import Derived.Test.YthjllnabjnjpmaaPE
namespace Go.Proofs.Ythjllnabjnjpmaa
set_option maxRecDepth 100000
namespace Fd
variable {F F' : Fd} {φ : St → St}
/-- one field seen as another one -/
structure Sym (F F' : Fd) (φ : St → St) : Prop where
  ok : ∀ s, F.Ok s → F'.Ok (φ s)
  exit : ∀ s, F.Ok s → (F'.exit (φ s) = none ↔ F.exit s = none)
  step : ∀ s, F.Ok s → F.exit s = none → F'.step (φ s) = φ (F.step s)
  rev : ∀ s, F.Ok s → F'.rev (φ s) = φ (F.rev s)
  inj : ∀ s t, F.Ok s → F.Ok t → φ s = φ t → s = t
  sur : ∀ t, F'.Ok t → ∃ s, F.Ok s ∧ φ s = t
theorem sym_go (h : Sym F F' φ) {s : St} (hs : F.Ok s) {N : Nat} (hon : ∀ j, j < N → F.exit (F.go s j) = none) : ∀ k, k ≤ N → F'.go (φ s) k = φ (F.go s k)
  | 0, _ => rfl
  | k + 1, hk => by
    rw [go_succ, sym_go h hs hon k (by omega), h.step _ (go_ok hs hon k (by omega)) (hon k (by omega))]; rfl
theorem sym_on (h : Sym F F' φ) {s : St} (hs : F.Ok s) {K : Nat} (hon' : ∀ j, j < K → F'.exit (F'.go (φ s) j) = none) : ∀ k, k ≤ K → ∀ j, j < k → F.exit (F.go s j) = none
  | 0, _ => fun j hj => absurd hj (by omega)
  | k + 1, hk => fun j hj => by
    have ih := sym_on h hs hon' k (by omega)
    rcases Nat.lt_or_ge j k with hl | hl
    · exact ih j hl
    · have : j = k := by omega
      subst this
      rw [← h.exit _ (go_ok hs ih j (Nat.le_refl _)), ← sym_go h hs ih j (Nat.le_refl _)]
      exact hon' j (by omega)
theorem sym_comes (h : Sym F F' φ) {s : St} (hs : F.Ok s) {K : Nat} : F'.Comes (φ s) K ↔ F.Comes s K := by
  constructor
  · intro hc
    have hon := sym_on h hs hc.on K (Nat.le_refl _)
    refine ⟨hc.pos, hon, ?_, fun j hj hjK e => ?_⟩
    · have := hc.back
      rw [sym_go h hs hon K (Nat.le_refl _)] at this
      exact h.inj _ _ (go_ok hs hon K (Nat.le_refl _)) hs this
    · refine hc.first j hj hjK ?_
      rw [sym_go h hs hon j (by omega), e]
  · intro hc
    refine ⟨hc.pos, fun j hj => ?_, ?_, fun j hj hjK e => ?_⟩
    · rw [sym_go h hs hc.on j (by omega), h.exit _ (go_ok hs hc.on j (by omega))]; exact hc.on j hj
    · rw [sym_go h hs hc.on K (Nat.le_refl _), hc.back]
    · rw [sym_go h hs hc.on j (by omega)] at e
      exact hc.first j hj hjK (h.inj _ _ (go_ok hs hc.on j (by omega)) hs e)
theorem sym_round (h : Sym F F' φ) {s : St} (hs : F.Ok s) : F'.IsRound (φ s) ↔ F.IsRound s := by
  constructor
  · rintro ⟨K, hK⟩; exact ⟨K, (sym_comes h hs).1 hK⟩
  · rintro ⟨K, hK⟩; exact ⟨K, (sym_comes h hs).2 hK⟩
theorem sym_same (h : Sym F F' φ) {s t : St} (hs : F.Ok s) (ht : F.Ok t) (hr : F.IsRound s) : F'.Same (φ s) (φ t) ↔ F.Same s t := by
  obtain ⟨K, hK⟩ := hr
  have hg : ∀ k, F'.go (φ s) k = φ (F.go s k) := fun k => sym_go h hs (N := k) (fun j _ => comes_on hK j) k (Nat.le_refl _)
  constructor
  · rintro ⟨k, e | e⟩
    · rw [hg] at e
      exact ⟨k, .inl (h.inj _ _ ht (comes_ok hs hK k) e)⟩
    · rw [hg, h.rev _ (comes_ok hs hK k)] at e
      exact ⟨k, .inr (h.inj _ _ ht (rev_ok (comes_ok hs hK k)) e)⟩
  · rintro ⟨k, e | e⟩
    · exact ⟨k, .inl (by rw [hg, e])⟩
    · exact ⟨k, .inr (by rw [hg, h.rev _ (comes_ok hs hK k), e])⟩
/-- a list that is carried into another one, each to one of its own, is no longer -/
theorem inj_len {α β : Type} [DecidableEq β] (l : List α) (k : List β) (R : α → β → Prop) (hn : l.Nodup) (h1 : ∀ a ∈ l, ∃ b ∈ k, R a b) (h2 : ∀ a ∈ l, ∀ a' ∈ l, ∀ b ∈ k, R a b → R a' b → a = a') : l.length ≤ k.length := by
  induction l generalizing k with
  | nil => exact Nat.zero_le _
  | cons a l ih =>
    obtain ⟨b, hb, hab⟩ := h1 a (List.mem_cons_self ..)
    have hl := List.nodup_cons.1 hn
    have h3 := ih (k.erase b) hl.2 (fun x hx => by
        obtain ⟨c, hc, hxc⟩ := h1 x (List.mem_cons_of_mem _ hx)
        refine ⟨c, (List.mem_erase_of_ne ?_).2 hc, hxc⟩
        rintro rfl
        have := h2 a (List.mem_cons_self ..) x (List.mem_cons_of_mem _ hx) c hc hab hxc
        rw [← this] at hx; exact hl.1 hx)
      (fun x hx y hy c hc => h2 x (List.mem_cons_of_mem _ hx) y (List.mem_cons_of_mem _ hy) c (List.mem_of_mem_erase hc))
    have h4 := List.length_erase_of_mem hb
    have h5 := List.length_pos_of_mem hb
    rw [List.length_cons]; omega
theorem sym_leads (h : Sym F F' φ) (hm : 1 ≤ F.m) (hm' : 1 ≤ F'.m) : F'.leads.length = F.leads.length := by
  have hmem : ∀ {x}, x ∈ F.leads → F.Ok (F.st x) ∧ x < 4 * (F.n * F.m) ∧ F.Lead x := fun hx => ⟨st_ok hm (mem_leads.1 hx).1, mem_leads.1 hx⟩
  have hmem' : ∀ {x}, x ∈ F'.leads → F'.Ok (F'.st x) ∧ x < 4 * (F'.n * F'.m) ∧ F'.Lead x := fun hx => ⟨st_ok hm' (mem_leads.1 hx).1, mem_leads.1 hx⟩
  apply Nat.le_antisymm
  · refine inj_len _ _ (fun x y => ∃ s, F.Ok s ∧ φ s = F'.st x ∧ F.Same (F.st y) s) ((List.nodup_range).filter _) (fun x hx => ?_) (fun x hx x' hx' y hy => ?_)
    · obtain ⟨ho, hlt, hl⟩ := hmem' hx
      obtain ⟨s, hs, e⟩ := h.sur _ ho
      have hr : F.IsRound s := (sym_round h hs).1 (e ▸ hl.1)
      obtain ⟨y, h1, h2, h3⟩ := lead_of hs hr
      exact ⟨y, mem_leads.2 ⟨Nat.lt_of_le_of_lt h1 (code_lt hs), h2⟩, s, hs, e, h3⟩
    · rintro ⟨s, hs, e, hsame⟩ ⟨s', hs', e', hsame'⟩
      obtain ⟨ho, hlt, hl⟩ := hmem hy
      obtain ⟨ho1, hlt1, hl1⟩ := hmem' hx
      obtain ⟨ho2, hlt2, hl2⟩ := hmem' hx'
      have h1 := same_trans hs (same_round ho hl.1 hsame) (same_symm ho hl.1 hsame) hsame'
      have h2 := (sym_same h hs hs' (same_round ho hl.1 hsame)).2 h1
      rw [e, e'] at h2
      exact lead_uniq hm' hlt1 hlt2 hl1 hl2 h2
  · refine inj_len _ _ (fun x y => F'.Same (F'.st y) (φ (F.st x))) ((List.nodup_range).filter _) (fun x hx => ?_) (fun x hx x' hx' y hy => ?_)
    · obtain ⟨ho, hlt, hl⟩ := hmem hx
      obtain ⟨y, h1, h2, h3⟩ := lead_of (h.ok _ ho) ((sym_round h ho).2 hl.1)
      exact ⟨y, mem_leads.2 ⟨Nat.lt_of_le_of_lt h1 (code_lt (h.ok _ ho)), h2⟩, h3⟩
    · intro e e'
      obtain ⟨ho, hlt, hl⟩ := hmem' hy
      obtain ⟨ho1, hlt1, hl1⟩ := hmem hx
      obtain ⟨ho2, hlt2, hl2⟩ := hmem hx'
      have h1 := same_trans (h.ok _ ho1) ((sym_round h ho1).2 hl1.1) (same_symm ho hl.1 e) e'
      exact lead_uniq hm hlt1 hlt2 hl1 hl2 ((sym_same h ho1 ho2 hl1.1).1 h1)
/-! ### turned, flipped -/
def exL (b : UInt8) : UInt8 := if b = 114 then 102 else if b = 102 then 114 else b
theorem exL_cases (b : UInt8) : (turnD b = turnD 114 ∧ turnD (exL b) = turnD 102) ∨ (turnD b = turnD 102 ∧ turnD (exL b) = turnD 114) ∨ (turnD b = turnD 46 ∧ turnD (exL b) = turnD 46) := by
  by_cases h1 : b = 114
  · subst h1; exact .inl ⟨rfl, rfl⟩
  · by_cases h2 : b = 102
    · subst h2; exact .inr (.inl ⟨rfl, rfl⟩)
    · refine .inr (.inr ?_)
      have e : exL b = b := by unfold exL; rw [if_neg h1, if_neg h2]
      rw [e]
      have : turnD b = turnD 46 := by
        funext d
        unfold turnD
        rw [if_neg h1, if_neg h2]; rfl
      exact ⟨this, this⟩
theorem turnD_turn (b : UInt8) (d : Nat) (h : d < 4) : turnD (exL b) ((d + 1) % 4) = (turnD b d + 1) % 4 := by
  have hd : d = 0 ∨ d = 1 ∨ d = 2 ∨ d = 3 := by omega
  rcases exL_cases b with ⟨e1, e2⟩ | ⟨e1, e2⟩ | ⟨e1, e2⟩ <;> rw [e1, e2] <;> rcases hd with rfl | rfl | rfl | rfl <;> rfl
theorem turnD_flip (b : UInt8) (d : Nat) (h : d < 4) : turnD (exL b) ((4 - d) % 4) = (4 - turnD b d) % 4 := by
  have hd : d = 0 ∨ d = 1 ∨ d = 2 ∨ d = 3 := by omega
  rcases exL_cases b with ⟨e1, e2⟩ | ⟨e1, e2⟩ | ⟨e1, e2⟩ <;> rw [e1, e2] <;> rcases hd with rfl | rfl | rfl | rfl <;> rfl
theorem exit_none (s : St) (ho : F.out s < 4) : F.exit s = none ↔ (F.out s = 0 → s.r ≠ 0) ∧ (F.out s = 1 → s.c + 1 ≠ F.m) ∧ (F.out s = 2 → s.r + 1 ≠ F.n) ∧ (F.out s = 3 → s.c ≠ 0) := by
  have hcase : F.out s = 0 ∨ F.out s = 1 ∨ F.out s = 2 ∨ F.out s = 3 := by omega
  unfold exit
  rcases hcase with e | e | e | e <;> rw [e] <;> simp
theorem step_eq (s : St) (ho : F.out s < 4) : F.step s = ⟨if F.out s = 0 then s.r - 1 else if F.out s = 2 then s.r + 1 else s.r, if F.out s = 1 then s.c + 1 else if F.out s = 3 then s.c - 1 else s.c, F.out s⟩ := by
  have hcase : F.out s = 0 ∨ F.out s = 1 ∨ F.out s = 2 ∨ F.out s = 3 := by omega
  unfold step
  rcases hcase with e | e | e | e <;> rw [e] <;> simp
def turnS (n : Nat) (s : St) : St := ⟨s.c, n - 1 - s.r, (s.d + 1) % 4⟩
def flipS (m : Nat) (s : St) : St := ⟨s.r, m - 1 - s.c, (4 - s.d) % 4⟩
theorem sym_turn (hn : F'.n = F.m) (hm : F'.m = F.n) (hL : ∀ r c, r < F.n → c < F.m → F'.L c (F.n - 1 - r) = exL (F.L r c)) : Sym F F' (turnS F.n) := by
  have ho : ∀ s, F.Ok s → F'.out (turnS F.n s) = (F.out s + 1) % 4 := fun s hs => by
    show turnD (F'.L s.c (F.n - 1 - s.r)) ((s.d + 1) % 4) = _
    rw [hL _ _ hs.1 hs.2.1, turnD_turn _ _ hs.2.2]; rfl
  have hok : ∀ s, F.Ok s → F'.Ok (turnS F.n s) := fun s hs => by
    obtain ⟨h1, h2, h3⟩ := hs
    exact ⟨by show s.c < F'.n; omega, by show F.n - 1 - s.r < F'.m; omega, Nat.mod_lt _ (by decide)⟩
  refine ⟨hok, fun s hs => ?_, fun s hs he => ?_, fun s hs => ?_, fun s t hs ht e => ?_, fun t ht => ?_⟩
  · have h4 := out_lt hs
    have h5 := ho s hs
    rw [exit_none _ (out_lt (hok s hs)), exit_none _ h4, h5, hm, hn]
    obtain ⟨h1, h2, h3⟩ := hs
    have e1 : (turnS F.n s).r = s.c := rfl
    have e2 : (turnS F.n s).c = F.n - 1 - s.r := rfl
    rw [e1, e2]
    have hcase : F.out s = 0 ∨ F.out s = 1 ∨ F.out s = 2 ∨ F.out s = 3 := by omega
    rcases hcase with e | e | e | e <;> rw [e] <;> simp <;> omega
  · have h4 := out_lt hs
    have h5 := ho s hs
    rw [exit_none _ h4] at he
    rw [step_eq _ (out_lt (hok s hs)), step_eq _ h4, h5]
    obtain ⟨h1, h2, h3⟩ := hs
    unfold turnS
    have hcase : F.out s = 0 ∨ F.out s = 1 ∨ F.out s = 2 ∨ F.out s = 3 := by omega
    rcases hcase with e | e | e | e <;> rw [e] at he ⊢ <;> simp at he ⊢ <;> omega
  · have h5 := ho s hs
    have h4 := out_lt hs
    unfold rev
    rw [h5]
    unfold turnS
    simp only
    congr 1; omega
  · obtain ⟨h1, h2, h3⟩ := hs
    obtain ⟨k1, k2, k3⟩ := ht
    injection e with e1 e2 e3
    cases s; cases t
    simp only at *
    congr 1 <;> omega
  · obtain ⟨h1, h2, h3⟩ := ht
    refine ⟨⟨F.n - 1 - t.c, t.r, (t.d + 3) % 4⟩, ⟨by show F.n - 1 - t.c < F.n; omega, by show t.r < F.m; omega, Nat.mod_lt _ (by decide)⟩, ?_⟩
    unfold turnS
    cases t
    simp only at *
    congr 1 <;> omega
theorem sym_flip (hn : F'.n = F.n) (hm : F'.m = F.m) (hL : ∀ r c, r < F.n → c < F.m → F'.L r (F.m - 1 - c) = exL (F.L r c)) : Sym F F' (flipS F.m) := by
  have ho : ∀ s, F.Ok s → F'.out (flipS F.m s) = (4 - F.out s) % 4 := fun s hs => by
    show turnD (F'.L s.r (F.m - 1 - s.c)) ((4 - s.d) % 4) = _
    rw [hL _ _ hs.1 hs.2.1, turnD_flip _ _ hs.2.2]; rfl
  have hok : ∀ s, F.Ok s → F'.Ok (flipS F.m s) := fun s hs => by
    obtain ⟨h1, h2, h3⟩ := hs
    exact ⟨by show s.r < F'.n; omega, by show F.m - 1 - s.c < F'.m; omega, Nat.mod_lt _ (by decide)⟩
  refine ⟨hok, fun s hs => ?_, fun s hs he => ?_, fun s hs => ?_, fun s t hs ht e => ?_, fun t ht => ?_⟩
  · have h4 := out_lt hs
    have h5 := ho s hs
    rw [exit_none _ (out_lt (hok s hs)), exit_none _ h4, h5, hm, hn]
    obtain ⟨h1, h2, h3⟩ := hs
    have e1 : (flipS F.m s).r = s.r := rfl
    have e2 : (flipS F.m s).c = F.m - 1 - s.c := rfl
    rw [e1, e2]
    have hcase : F.out s = 0 ∨ F.out s = 1 ∨ F.out s = 2 ∨ F.out s = 3 := by omega
    rcases hcase with e | e | e | e <;> rw [e] <;> simp <;> omega
  · have h4 := out_lt hs
    have h5 := ho s hs
    rw [exit_none _ h4] at he
    rw [step_eq _ (out_lt (hok s hs)), step_eq _ h4, h5]
    obtain ⟨h1, h2, h3⟩ := hs
    unfold flipS
    have hcase : F.out s = 0 ∨ F.out s = 1 ∨ F.out s = 2 ∨ F.out s = 3 := by omega
    rcases hcase with e | e | e | e <;> rw [e] at he ⊢ <;> simp at he ⊢ <;> omega
  · have h5 := ho s hs
    have h4 := out_lt hs
    unfold rev
    rw [h5]
    unfold flipS
    simp only
    congr 1; omega
  · obtain ⟨h1, h2, h3⟩ := hs
    obtain ⟨k1, k2, k3⟩ := ht
    injection e with e1 e2 e3
    cases s; cases t
    simp only at *
    congr 1 <;> omega
  · obtain ⟨h1, h2, h3⟩ := ht
    refine ⟨⟨t.r, F.m - 1 - t.c, (4 - t.d) % 4⟩, ⟨by show t.r < F.n; omega, by show F.m - 1 - t.c < F.m; omega, Nat.mod_lt _ (by decide)⟩, ?_⟩
    unfold flipS
    cases t
    simp only at *
    congr 1 <;> omega
/-! ### cells through which rounds alone go -/
theorem times_two (hm : 1 ≤ F.m) {c : Nat} (hc : c < F.n * F.m) : F.times c = 2 ↔ ∀ d, d < 4 → F.IsRound (F.st (4 * c + d)) := by
  have h := times_twice hm hc
  have h4 : (cntB 4 fun d => F.roundB (4 * c + d)) = (if F.roundB (4 * c) then 1 else 0) + (if F.roundB (4 * c + 1) then 1 else 0) + (if F.roundB (4 * c + 2) then 1 else 0) + (if F.roundB (4 * c + 3) then 1 else 0) := by
    rw [cntB_succ, cntB_succ, cntB_succ, cntB_succ, cntB_zero]; simp
  rw [h4] at h
  constructor
  · intro h2 d hd
    rw [← roundB_iff]
    have hcase : d = 0 ∨ d = 1 ∨ d = 2 ∨ d = 3 := by omega
    cases e0 : F.roundB (4 * c) <;> cases e1 : F.roundB (4 * c + 1) <;> cases e2 : F.roundB (4 * c + 2) <;> cases e3 : F.roundB (4 * c + 3) <;> rw [e0, e1, e2, e3] at h <;> simp at h <;>
      first | omega | (rcases hcase with rfl | rfl | rfl | rfl <;> assumption)
  · intro hall
    have h0 : F.roundB (4 * c) = true := roundB_iff.2 (hall 0 (by decide))
    rw [h0, roundB_iff.2 (hall 1 (by decide)), roundB_iff.2 (hall 2 (by decide)), roundB_iff.2 (hall 3 (by decide))] at h
    simp at h; omega
noncomputable def twos (F : Fd) : Nat := cntB (F.n * F.m) fun c => F.times c == 2
theorem sym_twos (h : Sym F F' (turnS F.n)) (hn : F'.n = F.m) (hm : F'.m = F.n) (h1 : 1 ≤ F.n) (h2 : 1 ≤ F.m) : F'.twos = F.twos := by
  have hst : ∀ c d, d < 4 → F.st (4 * c + d) = ⟨c / F.m, c % F.m, d⟩ := fun c d hd => by
    unfold st
    rw [show (4 * c + d) / 4 = c by omega, show (4 * c + d) % 4 = d by omega]
  have hst' : ∀ c d, d < 4 → F'.st (4 * c + d) = ⟨c / F'.m, c % F'.m, d⟩ := fun c d hd => by
    unfold st
    rw [show (4 * c + d) / 4 = c by omega, show (4 * c + d) % 4 = d by omega]
  have hcell : ∀ {c}, c < F.n * F.m → c / F.m < F.n ∧ c % F.m < F.m := fun {c} hc => ⟨by rw [Nat.div_lt_iff_lt_mul (by omega)]; exact hc, Nat.mod_lt _ (by omega)⟩
  have hcell' : ∀ {c}, c < F'.n * F'.m → c / F'.m < F'.n ∧ c % F'.m < F'.m := fun {c} hc => ⟨by rw [Nat.div_lt_iff_lt_mul (by omega)]; exact hc, Nat.mod_lt _ (by omega)⟩
  -- cell c of F and cell c' of F' are the same one
  let R : Nat → Nat → Prop := fun c c' => c' / F'.m = c % F.m ∧ c' % F'.m = F.n - 1 - c / F.m
  have key : ∀ c c', c < F.n * F.m → c' < F'.n * F'.m → R c c' → (F'.times c' = 2 ↔ F.times c = 2) := by
    rintro c c' hc hc' ⟨e1, e2⟩
    rw [times_two (by omega) hc', times_two h2 hc]
    have hφ : ∀ d, d < 4 → turnS F.n (F.st (4 * c + d)) = F'.st (4 * c' + (d + 1) % 4) := fun d hd => by
      rw [hst c d hd, hst' c' _ (Nat.mod_lt _ (by decide)), e1, e2]; rfl
    constructor
    · intro hall d hd
      have := hall ((d + 1) % 4) (Nat.mod_lt _ (by decide))
      rw [← hφ d hd] at this
      exact (sym_round h (st_ok h2 (by omega))).1 this
    · intro hall d hd
      have := (sym_round h (st_ok h2 (by omega))).2 (hall ((d + 3) % 4) (Nat.mod_lt _ (by decide)))
      rw [hφ _ (Nat.mod_lt _ (by decide)), show ((d + 3) % 4 + 1) % 4 = d by omega] at this
      exact this
  unfold twos cntB
  apply Nat.le_antisymm
  · refine inj_len _ _ (fun c' c => R c c') ((List.nodup_range).filter _) (fun c' hc' => ?_) (fun a ha b hb c hc => ?_)
    · obtain ⟨h3, h4⟩ := List.mem_filter.1 hc'
      have h3 := List.mem_range.1 h3
      obtain ⟨k1, k2⟩ := hcell' h3
      have hc : (F.n - 1 - c' % F'.m) * F.m + c' / F'.m < F.n * F.m := cell_lt (by omega) (by omega)
      have q1 : ((F.n - 1 - c' % F'.m) * F.m + c' / F'.m) / F.m = F.n - 1 - c' % F'.m := by rw [Nat.mul_comm, Nat.mul_add_div (by omega), Nat.div_eq_of_lt (by omega)]; omega
      have q2 : ((F.n - 1 - c' % F'.m) * F.m + c' / F'.m) % F.m = c' / F'.m := by rw [Nat.mul_comm, Nat.mul_add_mod, Nat.mod_eq_of_lt (by omega)]
      have hR : R ((F.n - 1 - c' % F'.m) * F.m + c' / F'.m) c' := ⟨q2.symm, by rw [q1]; omega⟩
      refine ⟨_, List.mem_filter.2 ⟨List.mem_range.2 hc, ?_⟩, hR⟩
      rw [beq_iff_eq] at h4 ⊢
      exact (key _ _ hc h3 hR).1 h4
    · rintro ⟨e1, e2⟩ ⟨e3, e4⟩
      rw [← Nat.div_add_mod a F'.m, ← Nat.div_add_mod b F'.m, e1, e2, e3, e4]
  · refine inj_len _ _ R ((List.nodup_range).filter _) (fun c hc => ?_) (fun a ha b hb c hc => ?_)
    · obtain ⟨h3, h4⟩ := List.mem_filter.1 hc
      have h3 := List.mem_range.1 h3
      obtain ⟨k1, k2⟩ := hcell h3
      have hx : F.n - 1 - c / F.m < F'.m := by rw [hm]; exact Nat.lt_of_le_of_lt (Nat.sub_le _ _) (by omega)
      have hc' : (c % F.m) * F'.m + (F.n - 1 - c / F.m) < F'.n * F'.m := cell_lt (by omega) hx
      have q1 : ((c % F.m) * F'.m + (F.n - 1 - c / F.m)) / F'.m = c % F.m := by rw [Nat.mul_comm, Nat.mul_add_div (by omega), Nat.div_eq_of_lt hx, Nat.add_zero]
      have q2 : ((c % F.m) * F'.m + (F.n - 1 - c / F.m)) % F'.m = F.n - 1 - c / F.m := by rw [Nat.mul_comm, Nat.mul_add_mod, Nat.mod_eq_of_lt hx]
      refine ⟨_, List.mem_filter.2 ⟨List.mem_range.2 hc', ?_⟩, q1, q2⟩
      rw [beq_iff_eq] at h4 ⊢
      exact (key _ _ h3 hc' ⟨q1, q2⟩).2 h4
    · rintro ⟨e1, e2⟩ ⟨e3, e4⟩
      obtain ⟨h3, _⟩ := List.mem_filter.1 ha
      obtain ⟨h4, _⟩ := List.mem_filter.1 hb
      have k1 := (hcell (List.mem_range.1 h3)).1
      have k2 := (hcell (List.mem_range.1 h4)).1
      have e5 : a % F.m = b % F.m := by rw [← e1, ← e3]
      have e6 : a / F.m = b / F.m := by
        clear e1 e3 e5
        generalize a / F.m = x at *
        generalize b / F.m = y at *
        omega
      rw [← Nat.div_add_mod a F.m, ← Nat.div_add_mod b F.m, e5, e6]
end Fd
end Go.Proofs.Ythjllnabjnjpmaa
