/-
  PLAIN LAWS, NO Go IN SIGHT: full fields told by bits, and the greatest number of rounds; fields in turn have rounds of four.
-/
import Derived.Test.YthjllnabjnjpmaaPF
namespace Go.Proofs.Ythjllnabjnjpmaa
set_option maxRecDepth 100000
namespace Fd
variable {F F' : Fd}
theorem sym_id (hn : F'.n = F.n) (hm : F'.m = F.m) (hL : ∀ r c, r < F.n → c < F.m → F'.L r c = F.L r c) : Sym F F' id := by
  have ho : ∀ s, F.Ok s → F'.out s = F.out s := fun s hs => by unfold out; rw [hL _ _ hs.1 hs.2.1]
  refine ⟨fun s hs => ⟨by rw [hn]; exact hs.1, by rw [hm]; exact hs.2.1, hs.2.2⟩, fun s hs => ?_, fun s hs _ => ?_, fun s hs => ?_, fun s t _ _ e => e, fun t ht => ⟨t, ⟨by rw [← hn]; exact ht.1, by rw [← hm]; exact ht.2.1, ht.2.2⟩, rfl⟩⟩
  · show F'.exit s = none ↔ F.exit s = none
    unfold exit; rw [ho s hs, hn, hm]
  · show F'.step s = F.step s
    unfold step; rw [ho s hs]
  · show F'.rev s = F.rev s
    unfold rev; rw [ho s hs]
theorem ext_leads (hm1 : 1 ≤ F.m) (hn : F'.n = F.n) (hm : F'.m = F.m) (hL : ∀ r c, r < F.n → c < F.m → F'.L r c = F.L r c) : F'.leads.length = F.leads.length :=
  sym_leads (sym_id hn hm hL) hm1 (by rw [hm]; exact hm1)
end Fd
/-- the letter of a bit -/
def bitL (b k : Nat) : UInt8 := if b / 2 ^ k % 2 = 0 then 114 else 102
/-- the full field of a number -/
def fullF (n m b : Nat) : Fd := ⟨n, m, fun r c => bitL b (r * m + c)⟩
noncomputable def mostTo (n m : Nat) : Nat → Nat
  | 0 => 0
  | b + 1 => max (mostTo n m b) (fullF n m b).leads.length
noncomputable def mostN (n m : Nat) : Nat := mostTo n m (2 ^ (n * m))
theorem most_ge {n m : Nat} : ∀ {B b : Nat}, b < B → (fullF n m b).leads.length ≤ mostTo n m B
  | 0, _, h => by omega
  | B + 1, b, h => by
    unfold mostTo
    by_cases e : b = B
    · subst e; exact Nat.le_max_right _ _
    · exact Nat.le_trans (most_ge (show b < B by omega)) (Nat.le_max_left _ _)
theorem most_le {n m k : Nat} : ∀ {B : Nat}, (∀ b, b < B → (fullF n m b).leads.length ≤ k) → mostTo n m B ≤ k
  | 0, _ => Nat.zero_le _
  | B + 1, h => by
    unfold mostTo
    exact Nat.max_le.2 ⟨most_le fun b hb => h b (by omega), h B (by omega)⟩
theorem bits_exist (f : Nat → Bool) : ∀ K, ∃ b, b < 2 ^ K ∧ ∀ k, k < K → b / 2 ^ k % 2 = if f k then 1 else 0
  | 0 => ⟨0, by decide, fun k hk => by omega⟩
  | K + 1 => by
    obtain ⟨b, hb, h⟩ := bits_exist f K
    refine ⟨b + 2 ^ K * (if f K then 1 else 0), ?_, fun k hk => ?_⟩
    · rw [Nat.pow_succ]; split <;> omega
    · by_cases e : k = K
      · subst e
        rw [Nat.add_mul_div_left _ _ (Nat.two_pow_pos k), Nat.div_eq_of_lt hb]
        split <;> rfl
      · have hkK : k < K := by omega
        rw [← h k hkK]
        obtain ⟨j, rfl⟩ : ∃ j, K = k + (j + 1) := ⟨K - k - 1, by omega⟩
        have e2 : 2 ^ (k + (j + 1)) * (if f (k + (j + 1)) then 1 else 0) = 2 ^ k * (2 * (2 ^ j * (if f (k + (j + 1)) then 1 else 0))) := by
          rw [Nat.pow_add, Nat.pow_succ, Nat.mul_assoc, Nat.mul_comm (2 ^ j) 2, Nat.mul_assoc]
        rw [e2, Nat.add_mul_div_left _ _ (Nat.two_pow_pos k), Nat.add_mul_mod_self_left]
theorem bitL_full (b k : Nat) : bitL b k = 114 ∨ bitL b k = 102 := by unfold bitL; split; exact .inl rfl; exact .inr rfl
/-- a full field has a number -/
theorem full_number (n m : Nat) (G : Nat → Nat → UInt8) (hG : ∀ r c, r < n → c < m → G r c = 114 ∨ G r c = 102) : ∃ b, b < 2 ^ (n * m) ∧ ∀ r c, r < n → c < m → (fullF n m b).L r c = G r c := by
  obtain ⟨b, hb, h⟩ := bits_exist (fun k => decide (G (k / m) (k % m) = 102)) (n * m)
  refine ⟨b, hb, fun r c hr hc => ?_⟩
  have h1 : r * m + c < n * m := Fd.cell_lt hr hc
  have h2 := h _ h1
  have e1 : (r * m + c) / m = r := by rw [Nat.mul_comm, Nat.mul_add_div (by omega), Nat.div_eq_of_lt hc]; omega
  have e2 : (r * m + c) % m = c := by rw [Nat.mul_comm, Nat.mul_add_mod, Nat.mod_eq_of_lt hc]
  rw [e1, e2] at h2
  show bitL b (r * m + c) = G r c
  unfold bitL
  rcases hG r c hr hc with e | e
  · rw [e] at h2 ⊢
    rw [if_pos (by rw [h2]; decide)]
  · rw [e] at h2 ⊢
    rw [if_neg (by rw [h2]; decide)]
theorem most_turn_le {n m : Nat} (hn : 1 ≤ n) (hm : 1 ≤ m) : mostN n m ≤ mostN m n := by
  refine most_le fun b _ => ?_
  obtain ⟨b', hb', hL⟩ := full_number m n (fun r c => Fd.exL (bitL b ((n - 1 - c) * m + r))) fun r c _ _ => by
    rcases bitL_full b ((n - 1 - c) * m + r) with e | e <;> rw [e]
    · exact .inr rfl
    · exact .inl rfl
  have hs : Fd.Sym (fullF n m b) (fullF m n b') (Fd.turnS n) := Fd.sym_turn (F := fullF n m b) (F' := fullF m n b') rfl rfl fun r c hr hc => by
    have hr' : r < n := hr
    have := hL c (n - 1 - r) hc (by omega)
    rw [show n - 1 - (n - 1 - r) = r by omega] at this
    exact this
  rw [← Fd.sym_leads hs hm hn]
  exact most_ge hb'
theorem most_turn {n m : Nat} (hn : 1 ≤ n) (hm : 1 ≤ m) : mostN m n = mostN n m := Nat.le_antisymm (most_turn_le hm hn) (most_turn_le hn hm)
theorem most_full {F : Fd} (hm : 1 ≤ F.m) (hG : ∀ r c, r < F.n → c < F.m → F.L r c = 114 ∨ F.L r c = 102) : F.leads.length ≤ mostN F.n F.m := by
  obtain ⟨b, hb, hL⟩ := full_number F.n F.m F.L hG
  rw [← Fd.ext_leads (F := F) (F' := fullF F.n F.m b) hm rfl rfl hL]
  exact most_ge hb
theorem mostTo_le (n m : Nat) (hm : 1 ≤ m) (B : Nat) : 2 * mostTo n m B ≤ n * m := by
  have : mostTo n m B ≤ n * m / 2 := most_le fun b _ => by
    have := Fd.leads_few (F := fullF n m b) hm
    show (fullF n m b).leads.length ≤ n * m / 2
    have h2 : 2 * (fullF n m b).leads.length ≤ n * m := this
    omega
  omega
/-! ### fields in turn -/
def chkL (r c : Nat) : UInt8 := if (r + c) % 2 = 0 then 114 else 102
def chkF (n m : Nat) : Fd := ⟨n, m, chkL⟩
def roundC (F : Fd) (x : Nat) : Bool := (List.range 4).all (fun j => (F.exit (F.go (F.st x) j)).isNone) && decide (F.go (F.st x) 4 = F.st x)
def offC (F : Fd) (x : Nat) : Bool := (List.range 4).any fun j => (F.exit (F.go (F.st x) j)).isSome
theorem roundC_comes {F : Fd} {x : Nat} (hok : F.Ok (F.st x)) (h : roundC F x = true) : F.Comes (F.st x) 4 := by
  unfold roundC at h
  rw [Bool.and_eq_true, List.all_eq_true, decide_eq_true_iff] at h
  have hon : ∀ j, j < 4 → F.exit (F.go (F.st x) j) = none := fun j hj => by
    have := h.1 j (List.mem_range.2 hj)
    simpa using this
  refine ⟨by decide, hon, h.2, fun j hj h4 e => ?_⟩
  have := Fd.again_late hok (N := 4) hon (i := 0) (j := j) hj (by omega) (by rw [e]; rfl)
  omega
theorem offC_round {F : Fd} {x : Nat} (h : offC F x = true) : ¬ F.IsRound (F.st x) := by
  rintro ⟨K, hK⟩
  unfold offC at h
  obtain ⟨j, _, h⟩ := List.any_eq_true.1 h
  rw [Fd.comes_on hK j] at h; cases h
theorem chk_all : ((List.range 5).all fun n => (List.range 5).all fun m => ((List.range (4 * ((n + 1) * (m + 1)))).all fun x => roundC (chkF (n + 1) (m + 1)) x || offC (chkF (n + 1) (m + 1)) x) &&
    decide (sumB ((n + 1) * (m + 1)) (fun c => cntB 4 fun d => roundC (chkF (n + 1) (m + 1)) (4 * c + d)) = 8 * ((n * m + 1) / 2))) = true := by decide +kernel
theorem chk_one {n m : Nat} (hn : 1 ≤ n) (hn5 : n ≤ 5) (hm : 1 ≤ m) (hm5 : m ≤ 5) : (∀ x, x < 4 * (n * m) → roundC (chkF n m) x = true ∨ offC (chkF n m) x = true) ∧
    sumB (n * m) (fun c => cntB 4 fun d => roundC (chkF n m) (4 * c + d)) = 8 * (((n - 1) * (m - 1) + 1) / 2) := by
  obtain ⟨a, rfl⟩ : ∃ a, n = a + 1 := ⟨n - 1, by omega⟩
  obtain ⟨b, rfl⟩ : ∃ b, m = b + 1 := ⟨m - 1, by omega⟩
  have h := List.all_eq_true.1 (List.all_eq_true.1 chk_all a (List.mem_range.2 (by omega))) b (List.mem_range.2 (by omega))
  rw [Bool.and_eq_true, decide_eq_true_iff, List.all_eq_true] at h
  refine ⟨fun x hx => ?_, h.2⟩
  have := h.1 x (List.mem_range.2 hx)
  rw [Bool.or_eq_true] at this; exact this
/-- rounds of fields in turn have four steps, and are as many as told -/
theorem chk_law {F : Fd} {n m : Nat} (hn : 1 ≤ n) (hn5 : n ≤ 5) (hm : 1 ≤ m) (hm5 : m ≤ 5) (hF : F = chkF n m) : (∀ y ∈ F.lens, y = 4) ∧ F.lens.length = ((n - 1) * (m - 1) + 1) / 2 := by
  subst hF
  obtain ⟨h1, h2⟩ := chk_one hn hn5 hm hm5
  have hmF : 1 ≤ (chkF n m).m := hm
  have hnm : (chkF n m).n * (chkF n m).m = n * m := rfl
  have hR : ∀ x, x < 4 * (n * m) → ((chkF n m).roundB x = roundC (chkF n m) x) := fun x hx => by
    rw [Bool.eq_iff_iff, Fd.roundB_iff]
    constructor
    · intro hr
      rcases h1 x hx with h | h
      · exact h
      · exact absurd hr (offC_round h)
    · intro h
      exact ⟨4, roundC_comes (Fd.st_ok hmF hx) h⟩
  have hall : ∀ y ∈ (chkF n m).lens, y = 4 := fun y hy => by
    unfold Fd.lens at hy
    obtain ⟨x, hx, rfl⟩ := List.mem_map.1 hy
    obtain ⟨hx1, hx2⟩ := Fd.mem_leads.1 hx
    rcases h1 x hx1 with h | h
    · exact Fd.per_eq (roundC_comes (Fd.st_ok hmF hx1) h)
    · exact absurd hx2.1 (offC_round h)
  refine ⟨hall, ?_⟩
  have hs := Fd.lens_sum (F := chkF n m) hmF
  have hs4 : (chkF n m).lens.sum = 4 * (chkF n m).lens.length := by
    generalize (chkF n m).lens = L at hall
    induction L with
    | nil => rfl
    | cons a L ih =>
      rw [List.sum_cons, List.length_cons, ih fun y hy => hall y (List.mem_cons_of_mem _ hy), hall a (List.mem_cons_self ..)]; omega
  have h3 : sumB (n * m) (fun c => cntB 4 fun d => roundC (chkF n m) (4 * c + d)) = 2 * sumB (n * m) (chkF n m).times := by
    rw [← sumB_mul]
    refine sumB_ext _ fun c hc => ?_
    rw [Fd.times_twice hmF hc]
    exact cntB_ext 4 fun d hd => (hR _ (by omega)).symm
  rw [hnm] at hs
  omega
end Go.Proofs.Ythjllnabjnjpmaa
