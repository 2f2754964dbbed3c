/-
  CONTRACTS: BeamEnd, BeamWay, BeamLength of the program and of the reference.
-/
import Derived.Test.YthjllnabjnjpmaaBD
namespace Go.Proofs.Ythjllnabjnjpmaa
set_option maxRecDepth 100000
open Go.RowKit

open Classical in
noncomputable def lenB (F : Fd) (p : Nat) : Nat := if h : ∃ N, ∃ q, F.Ends (F.enter p) N q then Classical.choose h else 0
noncomputable def endB (F : Fd) (p : Nat) : Nat := (F.exit (F.go (F.enter p) (lenB F p))).getD 0
theorem ends_B {g : List ByteArray} (hg : gridB g = true) {p : Nat} (hp : p < portsN g) : (fld g).Ends ((fld g).enter p) (lenB (fld g) p) (endB (fld g) p) ∧ lenB (fld g) p ≤ 100 := by
  obtain ⟨N, q, hN, he⟩ := Fd.beam_ends (grid_hn hg) (grid_hm hg) (by rw [ports_fld]; exact hp)
  have h : ∃ N, ∃ q, (fld g).Ends ((fld g).enter p) N q := ⟨N, q, he⟩
  have hl : lenB (fld g) p = Classical.choose h := by unfold lenB; rw [dif_pos h]
  obtain ⟨q', he'⟩ := Classical.choose_spec h
  rw [← hl] at he'
  obtain ⟨e1, e2⟩ := Fd.ends_det he' he
  have h3 : endB (fld g) p = q' := by unfold endB; rw [he'.off]; rfl
  rw [h3]
  refine ⟨he', ?_⟩
  have h1 := grid_len hg
  have h2 := grid_width hg
  have h5 := Nat.mul_le_mul h1.2 h2.2
  have h6 : (fld g).n * (fld g).m = g.length * width g := rfl
  rw [e1]; omega
def ni (l : List Nat) : List Int := l.map fun x : Nat => (x : Int)
theorem ni_length (l : List Nat) : (ni l).length = l.length := by simp [ni]
theorem wayC_way (F : Fd) (s : St) (N : Nat) : wayC F s (N + 1) = ni (F.way s N) := by
  unfold wayC ni Fd.way
  rw [List.map_map]; rfl
noncomputable def endA (g : List ByteArray) (p : Int) : Nat := if givenB g p then endB (fld g) p.toNat else 0
noncomputable def wayA (g : List ByteArray) (p : Int) : List Nat := if givenB g p then (fld g).way ((fld g).enter p.toNat) (lenB (fld g) p.toNat) else []
theorem endA_no {g : List ByteArray} {p : Int} (h : givenB g p = false) : endA g p = 0 := by unfold endA; rw [h]; rfl
theorem wayA_no {g : List ByteArray} {p : Int} (h : givenB g p = false) : wayA g p = [] := by unfold wayA; rw [h]; rfl
theorem endA_yes {g : List ByteArray} {p : Nat} (h : givenB g p = true) : endA g p = endB (fld g) p := by unfold endA; rw [h]; rfl
theorem wayA_yes {g : List ByteArray} {p : Nat} (h : givenB g p = true) : wayA g p = (fld g).way ((fld g).enter p) (lenB (fld g) p) := by unfold wayA; rw [h]; rfl
theorem given_nat {g : List ByteArray} {p : Int} (h : givenB g p = true) : ∃ k : Nat, p = k ∧ k < portsN g ∧ gridB g = true := by
  obtain ⟨h1, h2, h3⟩ := givenB_iff.1 h
  obtain ⟨k, rfl⟩ := Int.eq_ofNat_of_zero_le h2
  exact ⟨k, rfl, by omega, h1⟩
theorem ports_20 {g : List ByteArray} (hg : gridB g = true) : portsN g ≤ 20 := by
  have h1 := (grid_len hg).2
  have h2 := (grid_width hg).2
  unfold portsN; omega
theorem wayA_len (g : List ByteArray) (p : Int) : (wayA g p).length ≤ 100 := by
  cases h : givenB g p
  · rw [wayA_no h]; exact Nat.zero_le _
  · obtain ⟨k, rfl, hk, hg⟩ := given_nat h
    obtain ⟨he, hN⟩ := ends_B hg hk
    have h1 := Fd.beam_len (grid_hn hg) (grid_hm hg) (by rw [ports_fld]; exact hk) he
    have h2 := Nat.mul_le_mul (grid_len hg).2 (grid_width hg).2
    have h6 : (fld g).n * (fld g).m = g.length * width g := rfl
    rw [wayA_yes h, Fd.way_length]; omega
theorem len_wayA (g : List ByteArray) (p : Int) : (ni (wayA g p)).length ≤ 100 := by rw [ni_length]; exact wayA_len g p
/-- numbers and a bool come back -/
def FreshIB (l : List Int) (b : Bool) (w : World) (e : Ending) (w' : World) : Prop :=
  ∃ A c, e = .returned (.tuple #[.slice A l.length c, .bool b]) ∧ w'.ownsRow w.heap.size 3 1 (.slice A l.length c) l.length (iv l) ∧ Below w.heap.size w w'

theorem rd_own2 {w : World} {base e : Nat} {A : Option Addr} {n c : Nat} {xs : List Value} (h : w.ownsRow base e 2 (.slice A n c) n xs) : Rd w w.heap.size A xs := fun hn => by
  rcases h.2 with ⟨hv, h0⟩ | ⟨g, cap, cur, hv, _, hg, hnc, _, hcs, htake⟩
  · have := h.1; omega
  · have hA : A = some ⟨g, 0, none⟩ := by injection hv
    refine ⟨g, 0, hA, (Array.getElem?_eq_some_iff.1 hg).1, fun i u hu => ?_⟩
    rw [cell_of_row w g _ cur e (0, 0) hg]
    rw [← htake, List.getElem?_take] at hu
    split at hu
    · simpa using hu
    · cases hu
theorem stC_length (F : Fd) (s : St) (K : Nat) : (stC F s K).length = 2 * K := by
  induction K with
  | zero => rfl
  | succ K ih => rw [stC_succ, List.length_append, ih]; simp; omega
theorem stC_get (F : Fd) (s : St) {K k : Nat} (hk : k < K) : (stC F s K)[k * 2]? = some (.int .i64 (F.cellN (F.go s k) : Nat)) ∧ (stC F s K)[k * 2 + 1]? = some (.int .i64 ((F.go s k).d : Nat)) := by
  induction K with
  | zero => omega
  | succ K ih =>
    rw [stC_succ]
    by_cases h : k < K
    · rw [List.getElem?_append_left (by rw [stC_length]; omega), List.getElem?_append_left (by rw [stC_length]; omega)]
      exact ih h
    · have : k = K := by omega
      subst this
      rw [List.getElem?_append_right (by rw [stC_length]; omega), List.getElem?_append_right (by rw [stC_length]; omega), stC_length]
      have e1 : k * 2 - 2 * k = 0 := by omega
      have e2 : k * 2 + 1 - 2 * k = 1 := by omega
      rw [e1, e2]
      exact ⟨rfl, rfl⟩
set_option maxHeartbeats 800000 in
theorem cellsOf_any (A : Option Addr) (c K : Nat) (F : Fd) (s : St) (w : World) (hr : Rd w w.heap.size A (stC F s K)) (hK : K ≤ 200) :
    Calls Try.prog 55 #[.slice A K c] w fun e w' => ∃ A' c', e = .returned (.slice A' K c') ∧ w'.ownsRow w.heap.size 3 1 (.slice A' K c') K (iv (wayC F s K)) ∧ Below w.heap.size w w' := by
  obtain ⟨j0, hji, hy0, hy1, hy2⟩ := info_parts infoInt
  have HR := Lib.hid hr
  have HO1 := Lib.hid (own_empty w 3)
  have HB1 := Lib.hid (below_alloc1 w (.cells #[] 3))
  clear hr
  go_enter Try.func55, Try.ntmps55
  go_wp2
  go_loopw [3, 9] (fun v i wr => ∃ (k : Nat), k ≤ K ∧ i = .int .i64 k ∧ Hid (wr.ownsRow w.heap.size 3 1 v k (iv (wayC F s k))) ∧ Hid (Below w.heap.size w wr)) (fun _ i _ => K - (intOf i).toNat)
  case atStart => exact ⟨0, Nat.zero_le _, rfl, HO1.out, HB1.out⟩
  case round =>
    obtain ⟨k, hk, rfl, HO, HB⟩ := hrel
    by_cases hlt : k < K
    · obtain ⟨g1, g2⟩ := stC_get F s hlt
      have hrr := HR.out.below HB.out
      obtain ⟨b, off, rfl, hbb, x0⟩ := hrr.at_ g1
      have x1 := hrr.cell g2
      rw [← Nat.add_assoc] at x1
      have hwz : w.heap.size ≤ wr.heap.size := HB.out.size
      have hk1 : k + 1 ≤ maxLen := by simp only [maxLen]; omega
      have hk2 : (k + 1) * 8 ≤ 140737488355328 := by omega
      have HW := Lib.hid (wayC_succ F s k)
      generalize (F.cellN (F.go s k) : Nat) = x at *
      generalize (F.go s k).d = d at *
      clear hrr g1 g2
      go_wp2_with (at_builtin; refine wpList_append_own _ rfl _ _ 36 rfl w.heap.size 3 j0 (.int .i64 0) 1 8 Try.underlying36 hji hy0 hy1 hy2 rfl (by decide) _ _ _ rfl ((HO.out.alloc _).alloc _) ⟨wr.heap.size + 1, 0, none⟩ 1 1 [_] rfl rfl (by simpa using cell_one_new (wr.alloc _) _ _) (int_one _ _) hk1 hk2 (alloc_le (alloc_le hwz _) _) ?_)
      intro v' w2 hown2 hgrow2 _
      have HC2 := Lib.hid (show w2.ownsRow w.heap.size 3 1 v' (k + 1) (iv (wayC F s (k + 1))) by rw [HW.out, iv_snoc]; exact hown2)
      have HB2 := Lib.hid (below_grown ((HB.out.alloc hwz _).alloc (alloc_le hwz _) _) hgrow2 (fun g hg => own_ge HO.out g hg))
      clear hown2 hgrow2 HO HB x0 x1
      go_wp2
      go_roundw
      case rel => exact ⟨k + 1, by omega, by go_num, HC2.out, HB2.out⟩
      case measure => simp [intOf]; omega
    · have HKK := Lib.hid (show k = K by omega)
      obtain ⟨A', c', rfl, _, _⟩ := own_form HO.out
      go_wp2
      go_ret
      exact ⟨A', c', by rw [← HKK.out]; rfl, by rw [← HKK.out]; exact HO.out, HB.out⟩
end Go.Proofs.Ythjllnabjnjpmaa
