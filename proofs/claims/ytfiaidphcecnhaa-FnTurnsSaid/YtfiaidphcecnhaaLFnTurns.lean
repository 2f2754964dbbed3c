/- The law FnTurns returns true for every code. No condition on the input. -/
import Derived.Test.YtfiaidphcecnhaaXD
import Derived.Test.YtfiaidphcecnhaaYC
namespace Go.Proofs.Ytfiaidphcecnhaa
open Go.ChangeShapes Go.WideShapes Go.ChangeAt Go.RowKit

theorem row_four (n m k : Nat) : (k < m ∧ 0 ≤ k) ∨ (m ≤ k ∧ k < m + n) ∨ (m + n ≤ k ∧ k < 2 * m + n) ∨ (2 * m + n ≤ k ∧ 0 ≤ k) := by omega
theorem rowP_val {F : Fd} {n m k : Nat} (hn : F.n = n) (hm : F.m = m) : F.rowP k = (decide (m ≤ k ∧ k < m + n) || decide (2 * m + n ≤ k)) := by unfold Fd.rowP; rw [hn, hm]

set_option maxHeartbeats 3200000 in
theorem walk_FnTurns (w : World) (A : Option Addr) (c : Nat) (l : List UInt8) (hr : Rd w w.heap.size A (bv l)) (hm : l.length ≤ c ∧ l.length ≤ maxLen) :
    Calls Try.prog 9 #[.slice A l.length c] w fun e w' => e = .returned (.bool true) ∧ Below w.heap.size w w' := by
  by_cases hl : 1048576 < l.length
  · go_enter Try.func9, Try.ntmps9
    go_wp2
    go_ret
    exact ⟨rfl, Below.refl _ _⟩
  have hlb : decide ((1048576 : Int) < (l.length : Int)) = false := decide_eq_false (by omega)
  clear hl
  go_enter Try.func9, Try.ntmps9
  go_wp2_with fail
  refine (DrawBeamTurns_any l A c _ hr hm).mono ?_
  rintro e w1 ⟨g, A1, c1, p, rfl, hg, hgz, hp, hb, hcp⟩
  obtain ⟨hlo, hhi, hsz⟩ := hgz
  have hgm : g.length ≤ maxLen := by unfold maxLen; omega
  have hgs : ∀ s ∈ g, s.size ≤ maxLen := fun s hs => by have := hsz s hs; unfold maxLen; omega
  clear hr hlb hcp hsz
  have HI := Lib.hid (iBeamTurns_any A1 c1 g p w1 hg hgm hgs)
  have HS := Lib.hid (fun (w : World) (h : Rd w w.heap.size A1 (sv g)) => sBeamTurns_any A1 c1 g p w h hgm hgs)
  obtain ⟨K, hK⟩ : ∃ K, turnsA g p = K := ⟨_, rfl⟩
  have HK := Lib.hid hK
  obtain ⟨b, hbB⟩ : ∃ b, givenB g p = b := ⟨_, rfl⟩
  have HB := Lib.hid hbB
  rw [hK, hbB] at HI
  simp only [hK, hbB] at HS
  clear hK hbB
  go_wp2_with fail
  refine HI.out.mono ?_
  rintro e w2 ⟨rfl, hb2⟩
  have hg2 := hg.later hb2
  have hbb2 := below_next hb hb2
  have HS2 := Lib.hid (HS.out _ hg2)
  clear HI HS hg hb hb2
  go_wp2_with fail
  refine HS2.out.mono ?_
  rintro e w3 ⟨rfl, hb3⟩
  have hg3 := hg2.later hb3
  have hbb3 := below_next hbb2 hb3
  clear HS2 hg2 hbb2 hb3
  have hkk : ((K : Int) == (K : Int)) = true := beq_self_eq_true _
  have hkn : ((K : Int) != (K : Int)) = false := by simp
  cases b
  · clear hkk
    go_wp2
    go_ret
    exact ⟨rfl, hbb3⟩
  obtain ⟨k, rfl, hk, hgB⟩ := given_nat HB.out
  have hev := turnsA_even HB.out
  rw [HK.out] at hev
  obtain ⟨gl1, gl2⟩ := grid_len hgB
  obtain ⟨gw1, gw2⟩ := grid_width hgB
  obtain ⟨b, off, rfl, hbb, _⟩ := hg3.at_ (sv_get g 0 (by omega))
  obtain ⟨s0, hc0, hz0⟩ : ∃ s0 : ByteArray, w3.cell? ⟨b, off, none⟩ = some (.string s0) ∧ s0.size = width g := ⟨g[0], by have := hg3.cell (sv_get g 0 (by omega)); rw [Nat.add_zero] at this; exact this, grid_row hgB 0 (by omega)⟩
  have hz5 : s0.size ≤ 5 := by omega
  have hpos : 0 < g.length := by omega
  have h1 := fun (w : World) (k' : Rd w w.heap.size (some ⟨b, off, none⟩) (sv g)) => iBeamEnd_any (some ⟨b, off, none⟩) c1 g (k : Nat) w k' hgm hgs
  have h2 := fun (w : World) (k' : Rd w w.heap.size (some ⟨b, off, none⟩) (sv g)) => iBeamTurns_any (some ⟨b, off, none⟩) c1 g (endA g (k : Nat) : Nat) w k' hgm hgs
  have h3 := fun (w : World) (k' : Rd w w.heap.size (some ⟨b, off, none⟩) (sv g)) => iBeamLength_any (some ⟨b, off, none⟩) c1 g (k : Nat) w k' hgm hgs
  simp only [HB.out] at h1 h3
  rw [turnsA_back HB.out, (endA_back HB.out).1, HK.out] at h2
  have hle := turnsA_le g (k : Nat)
  rw [HK.out] at hle
  obtain ⟨Ln, hLn⟩ : ∃ Ln, lenA g (k : Nat) = Ln := ⟨_, rfl⟩
  simp only [hLn] at h3
  rw [hLn] at hle
  have hqp : endA g (k : Nat) < portsN g := by
    obtain ⟨j, hj, hj2, _⟩ := given_nat (endA_back HB.out).1
    omega
  obtain ⟨q, hq⟩ : ∃ q, endA g (k : Nat) = q := ⟨_, rfl⟩
  simp only [hq] at h1 h2
  rw [hq] at hev hqp
  rw [rowP_val (F := fld g) (k := k) (n := g.length) (m := s0.size) rfl hz0.symm, rowP_val (F := fld g) (k := q) (n := g.length) (m := s0.size) rfl hz0.symm] at hev
  unfold portsN at hk hqp
  rw [← hz0] at hk hqp
  have H1 := Lib.hid (h1 _ hg3)
  have H2 := Lib.hid h2
  have H3 := Lib.hid h3
  have HEV := Lib.hid hev
  clear h1 h2 h3 hLn hq hev hgB hz0 gw1 gw2 hgs
  have hleI : (K : Int) ≤ (Ln : Int) := by omega
  have hk1 := row_four g.length s0.size k
  have hq1 := row_four g.length s0.size q
  have HK4 := Lib.hid hk1
  have HQ4 := Lib.hid hq1
  clear hk1 hq1
  go_wp2_with fail
  refine H1.out.mono ?_
  rintro e w4 ⟨rfl, hbx⟩
  have hg4 := hg3.later hbx
  have hbb4 := below_next hbb3 hbx
  clear H1 hbx hg3 hbb3 hc0
  have HQ := Lib.hid (H2.out _ hg4)
  go_wp2_with fail
  refine HQ.out.mono ?_
  rintro e w5 ⟨rfl, hbx⟩
  have hg5 := hg4.later hbx
  have hbb5 := below_next hbb4 hbx
  clear HQ hbx hg4 hbb4
  have HQ := Lib.hid (H3.out _ hg5)
  go_wp2_with fail
  refine HQ.out.mono ?_
  rintro e w6 ⟨rfl, hbx⟩
  have hg6 := hg5.later hbx
  have hbb6 := below_next hbb5 hbx
  clear HQ hbx hg5 hbb5
  clear H2 H3
  have fin : ∀ (rk rq : Bool), (decide (s0.size ≤ k ∧ k < s0.size + g.length) || decide (2 * s0.size + g.length ≤ k)) = rk → (decide (s0.size ≤ q ∧ q < s0.size + g.length) || decide (2 * s0.size + g.length ≤ q)) = rq → ((K : Int) % 2 == 0) = (rk == rq) := by
    intro rk rq e1 e2
    have := HEV.out
    rw [e1, e2] at this
    rw [← this, Bool.eq_iff_iff, beq_iff_eq, beq_iff_eq]; omega
  have FIN := Lib.hid fin
  clear fin
  rcases HK4.out with a | a | a | a <;> rcases HQ4.out with d | d | d | d
  all_goals
    have f1 := FIN.out _ _ rfl rfl
    obtain ⟨a1, a2⟩ := a
    obtain ⟨d1, d2⟩ := d
    first
      | (have e1 : (decide (s0.size ≤ k ∧ k < s0.size + g.length) || decide (2 * s0.size + g.length ≤ k)) = true := by rw [Bool.or_eq_true, decide_eq_true_iff, decide_eq_true_iff]; omega)
      | (have e1 : (decide (s0.size ≤ k ∧ k < s0.size + g.length) || decide (2 * s0.size + g.length ≤ k)) = false := by rw [Bool.or_eq_false_iff, decide_eq_false_iff_not, decide_eq_false_iff_not]; omega)
    first
      | (have e2 : (decide (s0.size ≤ q ∧ q < s0.size + g.length) || decide (2 * s0.size + g.length ≤ q)) = true := by rw [Bool.or_eq_true, decide_eq_true_iff, decide_eq_true_iff]; omega)
      | (have e2 : (decide (s0.size ≤ q ∧ q < s0.size + g.length) || decide (2 * s0.size + g.length ≤ q)) = false := by rw [Bool.or_eq_false_iff, decide_eq_false_iff_not, decide_eq_false_iff_not]; omega)
    rw [e1, e2] at f1
    clear e1 e2 HK4 HQ4 FIN HEV
    first
      | (have p3 : decide (2 * (s0.size : Int) + (g.length : Int) ≤ (k : Int)) = true := decide_eq_true (by omega))
      | (have p3 : decide (2 * (s0.size : Int) + (g.length : Int) ≤ (k : Int)) = false := decide_eq_false (by omega))
    first
      | (have q3 : decide (2 * (s0.size : Int) + (g.length : Int) ≤ (q : Int)) = true := decide_eq_true (by omega))
      | (have q3 : decide (2 * (s0.size : Int) + (g.length : Int) ≤ (q : Int)) = false := decide_eq_false (by omega))
    first
      | (have p2 : decide ((k : Int) < (s0.size : Int) + (g.length : Int)) = true := decide_eq_true (by omega))
      | (have p2 : decide ((k : Int) < (s0.size : Int) + (g.length : Int)) = false := decide_eq_false (by omega))
    first
      | (have q2 : decide ((q : Int) < (s0.size : Int) + (g.length : Int)) = true := decide_eq_true (by omega))
      | (have q2 : decide ((q : Int) < (s0.size : Int) + (g.length : Int)) = false := decide_eq_false (by omega))
    go_wp2
    go_ret
    refine ⟨?_, hbb6⟩
    simp [p2, p3, q2, q3]
set_option maxRecDepth 100000 in
theorem lifted_FnTurns (os : Os) (started : os.Started) (H : Type) (enc : TypeId × Value → H) :
    ReturnsInHanded {} Try.checked os 9 .any (Rows.fnTurnsSpec.pre6 enc Try.prog Try.f9 Rows.fnTurnsRow.domain false) (Rows.fnTurnsSpec.post enc Try.prog Try.f9 false true false false) := by
  refine returnsInHanded_of_change (C := Try.checked) own_knob started (by kernel_rfl) Try.func9
    (ChangeSpec.witness6 (enc := enc) (C := Try.checked) false ⟨#[], #[.slice none 0 0], []⟩ 8 (by kernel_rfl) (by kernel_rfl) (by kernel_rfl) (by kernel_rfl)) ?_
  intro W base args ds gs before hval0 hW hcnd _
  have hval : ∀ (j : Nat) t v, Try.f9.params[j]? = some t → args[j]? = some v → Value.okWide Try.prog W .any base t v := hval0
  have hW' := hW
  obtain ⟨p, q, hA0, hV, rfl, hfz, hnd⟩ := hW
  have hA : DataW.TrodAll enc Try.prog W 0 (fun _ => true) true Try.f9.params.toList args.toList ds p := hA0
  rw [Try.params9] at hA hval
  obtain ⟨v0, vs0, d0, ds0, p0, q0, hargs, rfl, rfl, h0, r0⟩ := trodAll_cons hA
  obtain ⟨rfl, rfl, rfl⟩ := trodAll_nil r0
  obtain rfl : args = #[v0] := by cases args; simp_all
  obtain ⟨rfl, rfl⟩ := trodVars_none hV
  clear hA0 hval0
  simp only [List.append_nil] at hW'
  have hlt : ∀ x ∈ (p0 ++ []), x.block < W.heap.size := fun x hx => hW'.lt x (by simpa using hx)
  have hlt0 : ∀ x ∈ p0, x.block < W.heap.size := fun x hx => hlt x (by simp [hx])
  have hag0 : ∀ (W' : World), Below W.heap.size W W' → DataW.Trod enc Try.prog W' 0 (fun b => decide (b < W.heap.size)) true 32 v0 d0 p0 :=
    fun W' hn => Below.trod laid_out rd_B (of_decide_eq_true (by kernel_rfl)) h0 hn hlt0
  obtain ⟨A0, c0, l0, rfl, hr0, hm0⟩ := open_B (hval 0 32 v0 rfl rfl) h0 hlt0
  refine (walk_FnTurns W A0 c0 l0 hr0 hm0).mono fun e W' ⟨he, hb⟩ => ?_
  subst he
  exact ⟨_, rfl, _, _, _, [], (p0 ++ []), [], hW', (trodAll_cons_mk (shut_bool Try.underlying4 _) trodAll_mk0), (trodAll_cons_mk (hag0 W' hb) trodAll_mk0), rfl, hb.frame _, fun h => by cases h⟩

theorem over_FnTurns : Rows.fnTurnsRow.holds Try.pinned (OpenSpec.ofChange Rows.fnTurnsSpec) :=
  OpenClaim.holds_of_wide 9 Try.f9 rfl rfl rfl rfl rfl rfl rfl ⟨rfl, rfl, rfl, rfl, rfl⟩ rfl rfl rfl rfl rfl (by kernel_rfl) Try.func9 (by kernel_rfl)
    (of_decide_eq_true (by kernel_rfl)) (by unfold Func.isWrapper; first | (rw [if_pos (by decide +kernel)]; kernel_rfl) | (rw [if_neg (by decide +kernel)]; exact ⟨rfl, rfl⟩))
    (fun os started H enc _ => lifted_FnTurns os started H enc)

theorem holds_FnTurns : Rows.FnTurnsSaid := over_FnTurns
#print axioms holds_FnTurns
end Go.Proofs.Ytfiaidphcecnhaa
