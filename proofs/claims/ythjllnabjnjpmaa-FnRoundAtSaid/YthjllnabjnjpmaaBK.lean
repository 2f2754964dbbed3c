/-
  CONTRACTS: BeamSides, BeamPairs of the program and of the reference; total.
-/
import Derived.Test.YthjllnabjnjpmaaBH
namespace Go.Proofs.Ythjllnabjnjpmaa
set_option maxRecDepth 100000
open Go.RowKit

theorem own_drew {w : World} {base e size n : Nat} {v : Value} {xs : List Value} (h : w.ownsRow base e size v n xs) : w.drew.ownsRow base e size v n xs := h
def dirsN (F : Fd) (s : St) (K : Nat) : List Nat := (List.range K).map fun j => (F.go s j).d
theorem dirsN_length (F : Fd) (s : St) (K : Nat) : (dirsN F s K).length = K := by simp [dirsN]
theorem dirsN_get (F : Fd) (s : St) (K k : Nat) (hk : k < K) : (dirsN F s K)[k]'(by rw [dirsN_length]; exact hk) = (F.go s k).d := by simp [dirsN]
theorem wayD_ni (F : Fd) (s : St) (K : Nat) : wayD F s K = ni (dirsN F s K) := by
  unfold wayD ni dirsN
  rw [List.map_map]; rfl
theorem dirs_lt {F : Fd} {s : St} (hs : F.Ok s) {N : Nat} (h : ∀ j, j < N → F.exit (F.go s j) = none) : ∀ x ∈ dirsN F s (N + 1), x < 4 := by
  intro x hx
  obtain ⟨k, hk, rfl⟩ := List.mem_map.1 hx
  exact (Fd.go_ok hs h k (by have := List.mem_range.1 hk; omega)).2.2
noncomputable def sidesA (g : List ByteArray) (p : Int) : List Nat := if givenB g p then cnts 4 (dirsN (fld g) ((fld g).enter p.toNat) (lenB (fld g) p.toNat + 1)) else []
theorem sidesA_no {g : List ByteArray} {p : Int} (h : givenB g p = false) : sidesA g p = [] := by unfold sidesA; rw [h]; rfl
theorem sidesA_yes {g : List ByteArray} {p : Nat} (h : givenB g p = true) : sidesA g p = cnts 4 (dirsN (fld g) ((fld g).enter p) (lenB (fld g) p + 1)) := by unfold sidesA; rw [h]; rfl
theorem len_sidesA (g : List ByteArray) (p : Int) : (ni (sidesA g p)).length ≤ 100 := by
  rw [ni_length]
  cases h : givenB g p
  · rw [sidesA_no h]; exact Nat.zero_le _
  · obtain ⟨k, rfl, _⟩ := given_nat h
    rw [sidesA_yes h, cnts_length]; omega
/-! ### partners of all ports -/
noncomputable def endsN (g : List ByteArray) (k : Nat) : List Nat := (List.range k).map (endB (fld g))
theorem endsN_length (g : List ByteArray) (k : Nat) : (endsN g k).length = k := by simp [endsN]
theorem endsN_iv (g : List ByteArray) (k : Nat) : iv (ni (endsN g (k + 1))) = iv (ni (endsN g k)) ++ [.int .i64 (endB (fld g) k : Nat)] := by simp [endsN, ni, iv, List.range_succ]
noncomputable def pairsA (g : List ByteArray) : List Nat := if gridB g then endsN g (portsN g) else []
theorem pairsA_no {g : List ByteArray} (h : gridB g = false) : pairsA g = [] := by unfold pairsA; rw [h]; rfl
theorem pairsA_yes {g : List ByteArray} (h : gridB g = true) : pairsA g = endsN g (portsN g) := by unfold pairsA; rw [h]; rfl
theorem len_pairsA (g : List ByteArray) : (ni (pairsA g)).length ≤ 100 := by
  rw [ni_length]
  cases h : gridB g
  · rw [pairsA_no h]; exact Nat.zero_le _
  · rw [pairsA_yes h, endsN_length]
    have := ports_20 h; omega
/-- numbers come back -/
def FreshL (l : List Int) (w : World) (e : Ending) (w' : World) : Prop :=
  ∃ A c, e = .returned (.slice A l.length c) ∧ w'.ownsRow w.heap.size 3 1 (.slice A l.length c) l.length (iv l) ∧ Below w.heap.size w w'
theorem sum_take_le (l : List Nat) (k : Nat) : (l.take k).sum ≤ l.sum := by
  have h := List.sum_append (l₁ := l.take k) (l₂ := l.drop k)
  rw [List.take_append_drop] at h
  omega
theorem sum_take_succ (l : List Nat) (k : Nat) (hk : k < l.length) : (l.take (k + 1)).sum = (l.take k).sum + l[k] := by
  rw [List.take_succ_eq_append_getElem hk, List.sum_append]; simp
theorem total_any (A : Option Addr) (c : Nat) (l : List Nat) (w : World) (B : Nat) (hr : Rd w B A (iv (ni l))) (hl : l.length ≤ 1000000) (hsum : l.sum ≤ 1000000) :
    Calls Try.prog 23 #[.slice A l.length c] w fun e w' => e = .returned (.int .i64 (l.sum : Nat)) ∧ w = w' := by
  have HR := Lib.hid hr
  clear hr
  go_enter Try.func23, Try.ntmps23
  go_wp2
  go_loop [3, 4] (fun t i => ∃ (k : Nat), k ≤ l.length ∧ i = .int .i64 k ∧ t = .int .i64 ((l.take k).sum : Nat)) (fun _ i => l.length - (intOf i).toNat)
  case atStart => exact ⟨0, Nat.zero_le _, rfl, rfl⟩
  case round =>
    obtain ⟨k, hk, rfl, rfl⟩ := hrel
    have hle := sum_take_le l k
    by_cases hlt : k < l.length
    · obtain ⟨b, off, rfl, hbb, x0⟩ := HR.out.at_ (niv_get l k hlt)
      have HT := Lib.hid (sum_take_succ l k hlt)
      have hle2 := sum_take_le l (k + 1)
      rw [HT.out] at hle2
      obtain ⟨y, hy⟩ : ∃ y, l[k] = y := ⟨_, rfl⟩
      rw [hy] at HT x0 hle2
      clear hy HR
      go_wp2
      go_round
      case rel => exact ⟨k + 1, by omega, by go_num, by rw [HT.out]; go_num⟩
      case measure => simp [intOf]; omega
    · have HK := Lib.hid (show (l.take k).sum = l.sum by rw [List.take_of_length_le (by omega)])
      go_wp2
      go_ret
      exact ⟨by rw [← HK.out]; rfl, rfl⟩
end Go.Proofs.Ythjllnabjnjpmaa
