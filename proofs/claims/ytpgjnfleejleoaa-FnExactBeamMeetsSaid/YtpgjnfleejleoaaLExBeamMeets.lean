/- The law FnExactBeamMeets returns true for every input and leaves its list as it was. No condition on the input. -/
import Derived.Test.YtpgjnfleejleoaaBJ
import Derived.Test.YtpgjnfleejleoaaD
namespace Go.Proofs.Ytpgjnfleejleoaa
open Go.ChangeShapes Go.WideShapes Go.ChangeAt Go.RowKit

set_option linter.unusedVariables false in
set_option maxHeartbeats 800000 in
theorem walk_FnExactBeamMeets (w : World) (A : Option Addr) (c : Nat) (g : List ByteArray) (hr : Rd w w.heap.size A (sv g)) (hm : g.length ≤ maxLen) (hs : ∀ s ∈ g, s.size ≤ maxLen) (n1 : Int) (lo1 : -9223372036854775808 ≤ n1) (hi1 : n1 ≤ 9223372036854775807) (n2 : Int) (lo2 : -9223372036854775808 ≤ n2) (hi2 : n2 ≤ 9223372036854775807) :
    Calls Try.prog 12 #[.slice A g.length c, .int .i64 n1, .int .i64 n2] w fun e w' => e = .returned (.bool true) ∧ Below w.heap.size w w' := by
  by_cases hsz : (g.length : Int) + sumSz g ≤ 1048576
  case neg =>
    have hz : szL g 1048576 = -1 := szL_no (by omega)
    go_enter Try.func12, Try.ntmps12
    go_wp2_with (go_at_call 25; refine (sz_any _ _ _ _ _ _ hr (by decide) (by decide) hm hs).mono ?_; rintro e w' ⟨rfl, rfl⟩)
    go_ret
    exact ⟨rfl, Below.refl _ _⟩
  have hz : 0 ≤ szL g 1048576 := by rw [szL_eq hsz]; omega
  have hg : g.length ≤ 1048576 := by have := sumSz_nonneg g; omega
  have s1 := fun (A : Option Addr) (c : Nat) (w : World) (h : Rd w w.heap.size A (sv g)) => sBeamMeets_any A c g n1 n2 w h hm hs
  have s2 := fun (A : Option Addr) (c : Nat) (w : World) (h : Rd w w.heap.size A (sv g)) => iBeamMeets_any A c g n1 n2 w h hm hs
  generalize meetsA g n1 n2 = G0 at *
  generalize meetsB g n1 n2 = G1 at *
  have S1 := Lib.hid s1
  have S2 := Lib.hid s2
  clear s1 s2
  clear lo1 hi1
  clear lo2 hi2
  go_enter Try.func12, Try.ntmps12
  go_wp2_with fail
  refine (sz_any _ _ _ _ _ _ hr (by decide) (by decide) hm hs).mono ?_
  rintro e w' ⟨rfl, rfl⟩
  go_wp2_with fail
  refine (toStringS_any _ _ _ _ hr hg).mono ?_
  rintro e w1 ⟨A1, c1, rfl, ho1, hb1⟩
  have hr1 := Rd.of_own ho1
  go_wp2_with fail
  refine (S1.out _ _ _ hr1).mono ?_
  rintro e w2 ⟨rfl, hd2⟩
  have hb2 := below_next hb1 hd2
  clear ho1 hr1
  go_wp2_with fail
  refine (toStringS_any _ _ _ _ (hr.later hb2) hg).mono ?_
  rintro e w3 ⟨A3, c3, rfl, ho3, hb3⟩
  have hb3 := below_next hb2 hb3
  have hr3 := Rd.of_own ho3
  go_wp2_with fail
  refine (S2.out _ _ _ hr3).mono ?_
  rintro e w4 ⟨rfl, hd4⟩
  have hb4 := below_next hb3 hd4
  have hr4 := hr3.later hd4
  clear ho3 hr3
  go_wp2_with fail
  refine (toStringS_any _ _ _ _ (hr.later hb4) hg).mono ?_
  rintro e w5 ⟨A5, c5, rfl, ho5, hb5⟩
  have hr5 := Rd.of_own ho5
  go_wp2_with fail
  refine (eqStringS_any _ _ _ _ _ _ _ _ _ (hr4.below hb5) hr5 hm hm).mono ?_
  rintro e w6 ⟨rfl, hd6⟩
  go_wp2_with fail
  go_ret
  exact ⟨rfl, (below_next hb4 hb5).trans ((hd6.below _).mono (Nat.le_trans hb4.size hb5.size) |>.mono (Nat.le_refl _))⟩

set_option maxRecDepth 100000 in
theorem lifted_FnExactBeamMeets (os : Os) (started : os.Started) (H : Type) (enc : TypeId × Value → H) :
    ReturnsInHanded {} Try.checked os 12 .any (Rows.fnExactBeamMeetsSpec.pre6 enc Try.prog Try.f12 Rows.fnExactBeamMeetsRow.domain false) (Rows.fnExactBeamMeetsSpec.post enc Try.prog Try.f12 false true false false) := by
  refine returnsInHanded_of_change (C := Try.checked) own_knob started (by kernel_rfl) Try.func12
    (ChangeSpec.witness6 (enc := enc) (C := Try.checked) false ⟨#[], #[.slice none 0 0, .int .i64 0, .int .i64 0], []⟩ 8 (by kernel_rfl) (by kernel_rfl) (by kernel_rfl) (by kernel_rfl)) ?_
  intro W base args ds gs before hval0 hW hcnd _
  have hval : ∀ (j : Nat) t v, Try.f12.params[j]? = some t → args[j]? = some v → Value.okWide Try.prog W .any base t v := hval0
  have hW' := hW
  obtain ⟨p, q, hA0, hV, rfl, hfz, hnd⟩ := hW
  have hA : DataW.TrodAll enc Try.prog W 0 (fun _ => true) true Try.f12.params.toList args.toList ds p := hA0
  rw [Try.params12] at hA hval
  obtain ⟨v0, vs0, d0, ds0, p0, q0, hargs, rfl, rfl, h0, r0⟩ := trodAll_cons hA
  obtain ⟨v1, vs1, d1, ds1, p1, q1, rfl, rfl, rfl, h1, r1⟩ := trodAll_cons r0
  obtain ⟨v2, vs2, d2, ds2, p2, q2, rfl, rfl, rfl, h2, r2⟩ := trodAll_cons r1
  obtain ⟨rfl, rfl, rfl⟩ := trodAll_nil r2
  obtain rfl : args = #[v0, v1, v2] := by cases args; simp_all
  obtain ⟨rfl, rfl⟩ := trodVars_none hV
  clear hA0 hval0
  simp only [List.append_nil] at hW'
  have hlt : ∀ x ∈ (p0 ++ (p1 ++ (p2 ++ []))), x.block < W.heap.size := fun x hx => hW'.lt x (by simpa using hx)
  have hlt0 : ∀ x ∈ p0, x.block < W.heap.size := fun x hx => hlt x (by simp [hx])
  have hag0 : ∀ (W' : World), Below W.heap.size W W' → DataW.Trod enc Try.prog W' 0 (fun b => decide (b < W.heap.size)) true 23 v0 d0 p0 :=
    fun W' hn => Below.trod laid_out rd_S (of_decide_eq_true (by kernel_rfl)) h0 hn hlt0
  have hlt1 : ∀ x ∈ p1, x.block < W.heap.size := fun x hx => hlt x (by simp [hx])
  have hag1 : ∀ (W' : World), Below W.heap.size W W' → DataW.Trod enc Try.prog W' 0 (fun b => decide (b < W.heap.size)) true 3 v1 d1 p1 :=
    fun W' hn => Below.trod laid_out rd_I (of_decide_eq_true (by kernel_rfl)) h1 hn hlt1
  have hlt2 : ∀ x ∈ p2, x.block < W.heap.size := fun x hx => hlt x (by simp [hx])
  have hag2 : ∀ (W' : World), Below W.heap.size W W' → DataW.Trod enc Try.prog W' 0 (fun b => decide (b < W.heap.size)) true 3 v2 d2 p2 :=
    fun W' hn => Below.trod laid_out rd_I (of_decide_eq_true (by kernel_rfl)) h2 hn hlt2
  obtain ⟨A0, c0, g0, rfl, hr0, hm0, hs0⟩ := open_S (hval 0 23 v0 rfl rfl) h0 hlt0
  obtain ⟨n1, rfl, lo1, hi1⟩ := open_I (hval 1 3 v1 rfl rfl) h1
  obtain ⟨n2, rfl, lo2, hi2⟩ := open_I (hval 2 3 v2 rfl rfl) h2
  refine (walk_FnExactBeamMeets W A0 c0 g0 hr0 hm0 hs0 n1 lo1 hi1 n2 lo2 hi2).mono fun e W' ⟨he, hb⟩ => ?_
  subst he
  exact ⟨_, rfl, _, _, _, [], (p0 ++ (p1 ++ (p2 ++ []))), [], hW', (trodAll_cons_mk (shut_bool Try.underlying4 _) trodAll_mk0), (trodAll_cons_mk (hag0 W' hb) (trodAll_cons_mk (hag1 W' hb) (trodAll_cons_mk (hag2 W' hb) trodAll_mk0))), rfl, hb.frame _, fun h => by cases h⟩

theorem over_FnExactBeamMeets : Rows.fnExactBeamMeetsRow.holds Try.pinned (OpenSpec.ofChange Rows.fnExactBeamMeetsSpec) :=
  OpenClaim.holds_of_wide 12 Try.f12 rfl rfl rfl rfl rfl rfl rfl ⟨rfl, rfl, rfl, rfl, rfl⟩ rfl rfl rfl rfl rfl (by kernel_rfl) Try.func12 (by kernel_rfl)
    (of_decide_eq_true (by kernel_rfl)) (by unfold Func.isWrapper; first | (rw [if_pos (by decide +kernel)]; kernel_rfl) | (rw [if_neg (by decide +kernel)]; exact ⟨rfl, rfl⟩))
    (fun os started H enc _ => lifted_FnExactBeamMeets os started H enc)

theorem holds_FnExactBeamMeets : Rows.FnExactBeamMeetsSaid := over_FnExactBeamMeets
#print axioms holds_FnExactBeamMeets
end Go.Proofs.Ytpgjnfleejleoaa
