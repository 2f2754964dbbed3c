/-
  CONTRACTS: letterAt, l2Cell, BeamTurns, BeamFirst of the program and of the reference.
-/
import Derived.Test.YthjllnabjnjpmaaBF
namespace Go.Proofs.Ythjllnabjnjpmaa
set_option maxRecDepth 100000
open Go.RowKit

theorem letterAt_any (A : Option Addr) (cp : Nat) (g : List ByteArray) (x : Nat) (w : World) (B : Nat) (hr : Rd w B A (sv g)) (hg : gridB g = true) (hx : x < cellsN g) :
    Calls Try.prog 72 #[.slice A g.length cp, .int .i64 x] w fun e w' => e = .returned (.int .u8 ((fld g).at_ x).toNat) ∧ Dr w w' := by
  obtain ⟨hl1, hl2⟩ := grid_len hg
  obtain ⟨hw1, hw2⟩ := grid_width hg
  obtain ⟨r, hrr⟩ : ∃ r, x / width g = r := ⟨_, rfl⟩
  obtain ⟨c, hcc⟩ : ∃ c, x % width g = c := ⟨_, rfl⟩
  have hsr : r < g.length := by rw [← hrr, Nat.div_lt_iff_lt_mul (by omega)]; exact hx
  have hsc : c < width g := by rw [← hcc]; exact Nat.mod_lt _ (by omega)
  have hx25 : x < 25 := by
    have := (mul_bd hl2 hw2).1
    rw [← Int.natCast_mul] at this
    unfold cellsN at hx; omega
  obtain ⟨b, off, rfl, hb, _⟩ := hr.at_ (sv_get g 0 (by omega))
  obtain ⟨s0, hc0, hz0⟩ : ∃ s0 : ByteArray, w.cell? ⟨b, off, none⟩ = some (.string s0) ∧ s0.size = width g := ⟨g[0], by have := hr.cell (sv_get g 0 (by omega)); rw [Nat.add_zero] at this; exact this, grid_row hg 0 (by omega)⟩
  obtain ⟨row, hcr, hzr, HL⟩ : ∃ row : ByteArray, w.cell? ⟨b, off + r, none⟩ = some (.string row) ∧ row.size = width g ∧ Hid (∀ h : c < row.size, cellAt g r c = row[c]) :=
    ⟨g[r], hr.cell (sv_get g r hsr), grid_row hg r hsr, fun h => cellAt_eq hsr h⟩
  have hpos : 0 < g.length := by omega
  have hcl : c < row.size := by omega
  have hc5 : c < 5 := by omega
  have hr5 : r < 5 := by omega
  rw [← hz0] at hrr hcc
  have d1 : (x : Int) / (s0.size : Int) = (r : Int) := by rw [← hrr]; rfl
  have d2 : (x : Int) % (s0.size : Int) = (c : Int) := by rw [← hcc]; rfl
  have d3 : (x : Int).tdiv (s0.size : Int) = (r : Int) := by rw [← hrr]; rfl
  have d4 : (x : Int).tmod (s0.size : Int) = (c : Int) := by rw [← hcc]; rfl
  have hnz : ¬ (s0.size = 0) := by omega
  have hwr : IntKind.i64.wrap (r : Int) = (r : Int) := IntWalk.i64_in _ (by omega)
  have hsz : s0.size ≤ 5 := by omega
  have HA := Lib.hid (show (fld g).at_ x = row[c] by
    rw [← HL.out hcl, ← hrr, ← hcc, hz0]; rfl)
  clear hrr hcc hz0 hzr hr hg hw1 hw2 hsc
  go_enter Try.func72, Try.ntmps72
  go_wp2_with fail
  go_quiet (fail)
  go_wp2
  go_ret
  exact ⟨by rw [HA.out]; rfl, (Dr.refl _).drewN _⟩
theorem niv_get (l : List Nat) (k : Nat) (hk : k < l.length) : (iv (ni l))[k]? = some (.int .i64 (l[k] : Nat)) := by simp [iv, ni, hk]
theorem way_mem {g : List ByteArray} {p : Int} {x : Nat} (h : x ∈ wayA g p) : gridB g = true ∧ x < cellsN g := by
  cases hb : givenB g p
  · rw [wayA_no hb] at h; cases h
  · obtain ⟨k, rfl, hk, hg⟩ := given_nat hb
    rw [wayA_yes hb] at h
    obtain ⟨he, _⟩ := ends_B hg hk
    exact ⟨hg, Fd.way_lt (Fd.enter_ok (grid_hn hg) (grid_hm hg) (by rw [ports_fld]; exact hk)) he.on x h⟩
theorem mir_take (F : Fd) (l : List Nat) (k : Nat) (hk : k < l.length) : F.mirrorsOn (l.take (k + 1)) = F.mirrorsOn (l.take k) + if F.at_ l[k] != 46 then 1 else 0 := by
  rw [List.take_succ_eq_append_getElem hk, Fd.mirrorsOn_snoc]
theorem mir_le (F : Fd) (l : List Nat) (k : Nat) : F.mirrorsOn (l.take k) ≤ k := Nat.le_trans (Fd.mirrorsOn_le _) (List.length_take_le _ _)
noncomputable def turnsA (g : List ByteArray) (p : Int) : Nat := (fld g).mirrorsOn (wayA g p)
theorem ni_len100 (g : List ByteArray) (p : Int) : (ni (wayA g p)).length = (wayA g p).length := ni_length _

/-! ### the first mirror -/
noncomputable def firstO (g : List ByteArray) (p : Int) : Option Nat := (wayA g p).find? fun x => (fld g).at_ x != 46
noncomputable def firstA (g : List ByteArray) (p : Int) : Nat := (firstO g p).getD 0
noncomputable def firstB (g : List ByteArray) (p : Int) : Bool := (firstO g p).isSome
theorem find_at (P : Nat → Bool) : ∀ (l : List Nat) (k : Nat) (hk : k < l.length), (∀ x ∈ l.take k, P x = false) → P l[k] = true → l.find? P = some l[k]
  | a :: l, 0, _, _, h => by rw [List.getElem_cons_zero] at h ⊢; rw [List.find?_cons_of_pos h]
  | a :: l, k + 1, hk, hn, h => by
    have h1 := hn a (by simp)
    rw [List.find?_cons_of_neg (by rw [h1]; decide)]
    rw [List.getElem_cons_succ] at h ⊢
    exact find_at P l k (by simpa using hk) (fun x hx => hn x (by simp [hx])) h
end Go.Proofs.Ythjllnabjnjpmaa
