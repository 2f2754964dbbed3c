/- The law FnLongest returns true for every code. No condition on the input. -/
import Derived.Test.YtfiaidphcecnhaaXE
import Derived.Test.YtfiaidphcecnhaaYC
namespace Go.Proofs.Ytfiaidphcecnhaa
open Go.ChangeShapes Go.WideShapes Go.ChangeAt Go.RowKit

set_option maxHeartbeats 3200000 in
theorem walk_FnLongest (w : World) (A : Option Addr) (c : Nat) (l : List UInt8) (hr : Rd w w.heap.size A (bv l)) (hm : l.length ≤ c ∧ l.length ≤ maxLen) :
    Calls Try.prog 4 #[.slice A l.length c] w fun e w' => e = .returned (.bool true) ∧ Below w.heap.size w w' := by
  by_cases hl : 1048576 < l.length
  · go_enter Try.func4, Try.ntmps4
    go_wp2
    go_ret
    exact ⟨rfl, Below.refl _ _⟩
  have hlb : decide ((1048576 : Int) < (l.length : Int)) = false := decide_eq_false (by omega)
  clear hl
  go_enter Try.func4, Try.ntmps4
  go_wp2_with fail
  refine (DrawBeamLongest_any l A c _ hr hm).mono ?_
  rintro e w1 ⟨g, A1, c1, rfl, hg, hlo, hhi, hsz, hb, hcp⟩
  have hgm : g.length ≤ maxLen := by unfold maxLen; omega
  have hgs : ∀ s ∈ g, s.size ≤ maxLen := fun s hs => by have := hsz s hs; unfold maxLen; omega
  clear hr hlb hcp
  have HI := Lib.hid (iBeamLongest_any A1 c1 g w1 hg hgm hgs)
  have HS := Lib.hid (fun (w : World) (h : Rd w w.heap.size A1 (sv g)) => sBeamLongest_any A1 c1 g w h hgm hgs)
  obtain ⟨P, hP⟩ : ∃ P, bestP g = P := ⟨_, rfl⟩
  have HP := Lib.hid hP
  obtain ⟨N, hN⟩ : ∃ N, bestN g = N := ⟨_, rfl⟩
  have HN := Lib.hid hN
  obtain ⟨b, hbB⟩ : ∃ b, gridB g = b := ⟨_, rfl⟩
  have HB := Lib.hid hbB
  rw [hP, hN, hbB] at HI
  simp only [hP, hN, hbB] at HS
  clear hP hN hbB
  go_wp2_with fail
  refine HI.out.mono ?_
  rintro e w2 ⟨rfl, hb2⟩
  have hg2 := hg.later hb2
  have hbb2 := below_next hb hb2
  have HS2 := Lib.hid (HS.out _ hg2)
  clear HI HS hg hb hb2
  go_wp2_with fail
  refine HS2.out.mono ?_
  rintro e w3 ⟨rfl, hb3⟩
  have hg3 := hg2.later hb3
  have hbb3 := below_next hbb2 hb3
  clear HS2 hg2 hbb2 hb3
  have hkp : ((P : Int) == (P : Int)) = true := beq_self_eq_true _
  have hkn : ((P : Int) != (P : Int)) = false := by simp
  have hnp : ((N : Int) == (N : Int)) = true := beq_self_eq_true _
  have hnn : ((N : Int) != (N : Int)) = false := by simp
  cases b
  · go_wp2
    go_ret
    exact ⟨rfl, hbb3⟩
  have HLAW := Lib.hid (fun (i : Nat) (hi : i < portsN g) => best_law HB.out hi)
  rw [HP.out, HN.out] at HLAW
  have HL := Lib.hid (fun (i : Nat) (w : World) (k : Rd w w.heap.size A1 (sv g)) => iBeamLength_any A1 c1 g (i : Nat) w k hgm hgs)
  obtain ⟨gl1, gl2⟩ := grid_len HB.out
  obtain ⟨gw1, gw2⟩ := grid_width HB.out
  obtain ⟨b, off, rfl, hbb, _⟩ := hg3.at_ (sv_get g 0 (by omega))
  obtain ⟨s0, hc0, hz0⟩ : ∃ s0 : ByteArray, w3.cell? ⟨b, off, none⟩ = some (.string s0) ∧ s0.size = width g := ⟨g[0], by have := hg3.cell (sv_get g 0 (by omega)); rw [Nat.add_zero] at this; exact this, grid_row HB.out 0 (by omega)⟩
  have hz5 : s0.size ≤ 5 := by omega
  have hpos : 0 < g.length := by omega
  have HPP := Lib.hid (show 2 * ((g.length : Int) + (s0.size : Int)) = (portsN g : Nat) by unfold portsN; omega)
  have hP20 := ports_20 HB.out
  have HC := Lib.hid hc0
  have HR := Lib.hid hg3
  have HBB := Lib.hid hbb3
  clear hc0 hz0 gw1 gw2 hgs hg3 hbb3 HB
  generalize portsN g = Q at *
  go_wp2
  go_loopw [10] (fun i wr => ∃ (k : Nat), k ≤ Q ∧ i = .int .i64 k ∧ Hid (Below w3.heap.size w3 wr)) (fun i _ => Q - (intOf i).toNat)
  case atStart => exact ⟨0, Nat.zero_le _, rfl, Below.refl _ _⟩
  case round =>
    obtain ⟨k, hk, rfl, HW⟩ := hrel
    have hc1 : wr.cell? ⟨b, off, none⟩ = some (.string s0) := by rw [HW.out.cell hbb]; exact HC.out
    have hps := HPP.out
    by_cases hlt : k < Q
    · obtain ⟨l1, l2, l3, l4⟩ := HLAW.out k hlt
      have hL := HL.out k wr (HR.out.later HW.out)
      rw [l1] at hL
      have hlti : (k : Int) < 2 * ((g.length : Int) + (s0.size : Int)) := by omega
      obtain ⟨x, hx⟩ : ∃ x, lenA g (k : Nat) = x := ⟨_, rfl⟩
      rw [hx] at hL l2 l3 l4
      have HLL := Lib.hid hL
      have hng : ¬ ((N : Int) < (x : Int)) := by omega
      have hngd : decide ((N : Int) < (x : Int)) = false := decide_eq_false hng
      clear hps hL hx l1
      rcases Nat.lt_trichotomy k P with h | h | h
      · have e1 : (k : Int) < (P : Int) := by omega
        have e2 : ((x : Int) == (N : Int)) = false := int_beq_no (l3 h)
        have e3 : ((k : Int) == (P : Int)) = false := int_beq_no (by omega)
        clear l2 l3 l4 h
        go_wp2_with fail
        refine HLL.out.mono ?_
        rintro e w5 ⟨rfl, hb5⟩
        go_wp2
        go_roundw
        case rel => exact ⟨k + 1, by omega, by go_num, below_next HW.out hb5⟩
        case measure => simp [intOf]; omega
      · have e1 : ¬ ((k : Int) < (P : Int)) := by omega
        have e1d : decide ((k : Int) < (P : Int)) = false := decide_eq_false e1
        have e2 : ((x : Int) != (N : Int)) = false := int_bne_no' (l4 h)
        have e3 : ((k : Int) == (P : Int)) = true := int_beq_yes h
        clear l2 l3 l4 h
        go_wp2_with fail
        refine HLL.out.mono ?_
        rintro e w5 ⟨rfl, hb5⟩
        go_wp2
        go_roundw
        case rel => exact ⟨k + 1, by omega, by go_num, below_next HW.out hb5⟩
        case measure => simp [intOf]; omega
      · have e1 : ¬ ((k : Int) < (P : Int)) := by omega
        have e1d : decide ((k : Int) < (P : Int)) = false := decide_eq_false e1
        have e3 : ((k : Int) == (P : Int)) = false := int_beq_no (by omega)
        clear l2 l3 l4 h
        go_wp2_with fail
        refine HLL.out.mono ?_
        rintro e w5 ⟨rfl, hb5⟩
        go_wp2
        go_roundw
        case rel => exact ⟨k + 1, by omega, by go_num, below_next HW.out hb5⟩
        case measure => simp [intOf]; omega
    · have hlti : ¬ ((k : Int) < 2 * ((g.length : Int) + (s0.size : Int))) := by omega
      clear hps
      go_wp2
      go_ret
      exact ⟨rfl, below_next HBB.out HW.out⟩
set_option maxRecDepth 100000 in
theorem lifted_FnLongest (os : Os) (started : os.Started) (H : Type) (enc : TypeId × Value → H) :
    ReturnsInHanded {} Try.checked os 4 .any (Rows.fnLongestSpec.pre6 enc Try.prog Try.f4 Rows.fnLongestRow.domain false) (Rows.fnLongestSpec.post enc Try.prog Try.f4 false true false false) := by
  refine returnsInHanded_of_change (C := Try.checked) own_knob started (by kernel_rfl) Try.func4
    (ChangeSpec.witness6 (enc := enc) (C := Try.checked) false ⟨#[], #[.slice none 0 0], []⟩ 8 (by kernel_rfl) (by kernel_rfl) (by kernel_rfl) (by kernel_rfl)) ?_
  intro W base args ds gs before hval0 hW hcnd _
  have hval : ∀ (j : Nat) t v, Try.f4.params[j]? = some t → args[j]? = some v → Value.okWide Try.prog W .any base t v := hval0
  have hW' := hW
  obtain ⟨p, q, hA0, hV, rfl, hfz, hnd⟩ := hW
  have hA : DataW.TrodAll enc Try.prog W 0 (fun _ => true) true Try.f4.params.toList args.toList ds p := hA0
  rw [Try.params4] at hA hval
  obtain ⟨v0, vs0, d0, ds0, p0, q0, hargs, rfl, rfl, h0, r0⟩ := trodAll_cons hA
  obtain ⟨rfl, rfl, rfl⟩ := trodAll_nil r0
  obtain rfl : args = #[v0] := by cases args; simp_all
  obtain ⟨rfl, rfl⟩ := trodVars_none hV
  clear hA0 hval0
  simp only [List.append_nil] at hW'
  have hlt : ∀ x ∈ (p0 ++ []), x.block < W.heap.size := fun x hx => hW'.lt x (by simpa using hx)
  have hlt0 : ∀ x ∈ p0, x.block < W.heap.size := fun x hx => hlt x (by simp [hx])
  have hag0 : ∀ (W' : World), Below W.heap.size W W' → DataW.Trod enc Try.prog W' 0 (fun b => decide (b < W.heap.size)) true 32 v0 d0 p0 :=
    fun W' hn => Below.trod laid_out rd_B (of_decide_eq_true (by kernel_rfl)) h0 hn hlt0
  obtain ⟨A0, c0, l0, rfl, hr0, hm0⟩ := open_B (hval 0 32 v0 rfl rfl) h0 hlt0
  refine (walk_FnLongest W A0 c0 l0 hr0 hm0).mono fun e W' ⟨he, hb⟩ => ?_
  subst he
  exact ⟨_, rfl, _, _, _, [], (p0 ++ []), [], hW', (trodAll_cons_mk (shut_bool Try.underlying4 _) trodAll_mk0), (trodAll_cons_mk (hag0 W' hb) trodAll_mk0), rfl, hb.frame _, fun h => by cases h⟩

theorem over_FnLongest : Rows.fnLongestRow.holds Try.pinned (OpenSpec.ofChange Rows.fnLongestSpec) :=
  OpenClaim.holds_of_wide 4 Try.f4 rfl rfl rfl rfl rfl rfl rfl ⟨rfl, rfl, rfl, rfl, rfl⟩ rfl rfl rfl rfl rfl (by kernel_rfl) Try.func4 (by kernel_rfl)
    (of_decide_eq_true (by kernel_rfl)) (by unfold Func.isWrapper; first | (rw [if_pos (by decide +kernel)]; kernel_rfl) | (rw [if_neg (by decide +kernel)]; exact ⟨rfl, rfl⟩))
    (fun os started H enc _ => lifted_FnLongest os started H enc)

theorem holds_FnLongest : Rows.FnLongestSaid := over_FnLongest
#print axioms holds_FnLongest
end Go.Proofs.Ytfiaidphcecnhaa
