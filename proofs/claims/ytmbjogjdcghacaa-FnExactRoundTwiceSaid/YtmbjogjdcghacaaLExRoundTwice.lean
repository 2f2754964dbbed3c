/- The law FnExactRoundTwice returns true for every input and leaves its list as it was. No condition on the input. -/
import Derived.Test.YtmbjogjdcghacaaBT
import Derived.Test.YtmbjogjdcghacaaD
namespace Go.Proofs.Ytmbjogjdcghacaa
open Go.ChangeShapes Go.WideShapes Go.ChangeAt Go.RowKit

set_option linter.unusedVariables false in
set_option maxHeartbeats 800000 in
theorem walk_FnExactRoundTwice (w : World) (A : Option Addr) (c : Nat) (g : List ByteArray) (hr : Rd w w.heap.size A (sv g)) (hm : g.length ≤ maxLen) (hs : ∀ s ∈ g, s.size ≤ maxLen) :
    Calls Try.prog 6 #[.slice A g.length c] w fun e w' => e = .returned (.bool true) ∧ Below w.heap.size w w' := by
  by_cases hsz : (g.length : Int) + sumSz g ≤ 1048576
  case neg =>
    have hz : szL g 1048576 = -1 := szL_no (by omega)
    go_enter Try.func6, Try.ntmps6
    go_wp2_with (go_at_call 17; refine (sz_any _ _ _ _ _ _ hr (by decide) (by decide) hm hs).mono ?_; rintro e w' ⟨rfl, rfl⟩)
    go_ret
    exact ⟨rfl, Below.refl _ _⟩
  have hz : 0 ≤ szL g 1048576 := by rw [szL_eq hsz]; omega
  have hg : g.length ≤ 1048576 := by have := sumSz_nonneg g; omega
  have s1 := fun (A : Option Addr) (c : Nat) (w : World) (h : Rd w w.heap.size A (sv g)) => sRoundTwice_any A c g w h hm hs
  have s2 := fun (A : Option Addr) (c : Nat) (w : World) (h : Rd w w.heap.size A (sv g)) => iRoundTwice_any A c g w h hm hs
  generalize twosA g = G0 at *
  generalize gridB g = G1 at *
  have S1 := Lib.hid s1
  have S2 := Lib.hid s2
  clear s1 s2
  go_enter Try.func6, Try.ntmps6
  go_wp2_with fail
  refine (sz_any _ _ _ _ _ _ hr (by decide) (by decide) hm hs).mono ?_
  rintro e w' ⟨rfl, rfl⟩
  go_wp2_with fail
  refine (toStringS_any _ _ _ _ hr hg).mono ?_
  rintro e w1 ⟨A1, c1, rfl, ho1, hb1⟩
  have hr1 := Rd.of_own ho1
  go_wp2_with fail
  refine (S1.out _ _ _ hr1).mono ?_
  rintro e w2 ⟨rfl, hd2⟩
  have hb2 := below_next hb1 hd2
  clear ho1 hr1
  go_wp2_with fail
  refine (toStringS_any _ _ _ _ (hr.later hb2) hg).mono ?_
  rintro e w3 ⟨A3, c3, rfl, ho3, hb3⟩
  have hb3 := below_next hb2 hb3
  have hr3 := Rd.of_own ho3
  go_wp2_with fail
  refine (S2.out _ _ _ hr3).mono ?_
  rintro e w4 ⟨rfl, hd4⟩
  have hb4 := below_next hb3 hd4
  have hr4 := hr3.later hd4
  clear ho3 hr3
  go_wp2_with fail
  refine (toStringS_any _ _ _ _ (hr.later hb4) hg).mono ?_
  rintro e w5 ⟨A5, c5, rfl, ho5, hb5⟩
  have hr5 := Rd.of_own ho5
  go_wp2_with fail
  refine (eqStringS_any _ _ _ _ _ _ _ _ _ (hr4.below hb5) hr5 hm hm).mono ?_
  rintro e w6 ⟨rfl, hd6⟩
  go_wp2_with fail
  go_ret
  exact ⟨rfl, (below_next hb4 hb5).trans ((hd6.below _).mono (Nat.le_trans hb4.size hb5.size) |>.mono (Nat.le_refl _))⟩

set_option maxRecDepth 100000 in
theorem lifted_FnExactRoundTwice (os : Os) (started : os.Started) (H : Type) (enc : TypeId × Value → H) :
    ReturnsInHanded {} Try.checked os 6 .any (Rows.fnExactRoundTwiceSpec.pre6 enc Try.prog Try.f6 Rows.fnExactRoundTwiceRow.domain false) (Rows.fnExactRoundTwiceSpec.post enc Try.prog Try.f6 false true false false) := by
  refine returnsInHanded_of_change (C := Try.checked) own_knob started (by kernel_rfl) Try.func6
    (ChangeSpec.witness6 (enc := enc) (C := Try.checked) false ⟨#[], #[.slice none 0 0], []⟩ 8 (by kernel_rfl) (by kernel_rfl) (by kernel_rfl) (by kernel_rfl)) ?_
  intro W base args ds gs before hval0 hW hcnd _
  have hval : ∀ (j : Nat) t v, Try.f6.params[j]? = some t → args[j]? = some v → Value.okWide Try.prog W .any base t v := hval0
  have hW' := hW
  obtain ⟨p, q, hA0, hV, rfl, hfz, hnd⟩ := hW
  have hA : DataW.TrodAll enc Try.prog W 0 (fun _ => true) true Try.f6.params.toList args.toList ds p := hA0
  rw [Try.params6] at hA hval
  obtain ⟨v0, vs0, d0, ds0, p0, q0, hargs, rfl, rfl, h0, r0⟩ := trodAll_cons hA
  obtain ⟨rfl, rfl, rfl⟩ := trodAll_nil r0
  obtain rfl : args = #[v0] := by cases args; simp_all
  obtain ⟨rfl, rfl⟩ := trodVars_none hV
  clear hA0 hval0
  simp only [List.append_nil] at hW'
  have hlt : ∀ x ∈ (p0 ++ []), x.block < W.heap.size := fun x hx => hW'.lt x (by simpa using hx)
  have hlt0 : ∀ x ∈ p0, x.block < W.heap.size := fun x hx => hlt x (by simp [hx])
  have hag0 : ∀ (W' : World), Below W.heap.size W W' → DataW.Trod enc Try.prog W' 0 (fun b => decide (b < W.heap.size)) true 25 v0 d0 p0 :=
    fun W' hn => Below.trod laid_out rd_S (of_decide_eq_true (by kernel_rfl)) h0 hn hlt0
  obtain ⟨A0, c0, g0, rfl, hr0, hm0, hs0⟩ := open_S (hval 0 25 v0 rfl rfl) h0 hlt0
  refine (walk_FnExactRoundTwice W A0 c0 g0 hr0 hm0 hs0).mono fun e W' ⟨he, hb⟩ => ?_
  subst he
  exact ⟨_, rfl, _, _, _, [], (p0 ++ []), [], hW', (trodAll_cons_mk (shut_bool Try.underlying4 _) trodAll_mk0), (trodAll_cons_mk (hag0 W' hb) trodAll_mk0), rfl, hb.frame _, fun h => by cases h⟩

theorem over_FnExactRoundTwice : Rows.fnExactRoundTwiceRow.holds Try.pinned (OpenSpec.ofChange Rows.fnExactRoundTwiceSpec) :=
  OpenClaim.holds_of_wide 6 Try.f6 rfl rfl rfl rfl rfl rfl rfl ⟨rfl, rfl, rfl, rfl, rfl⟩ rfl rfl rfl rfl rfl (by kernel_rfl) Try.func6 (by kernel_rfl)
    (of_decide_eq_true (by kernel_rfl)) (by unfold Func.isWrapper; first | (rw [if_pos (by decide +kernel)]; kernel_rfl) | (rw [if_neg (by decide +kernel)]; exact ⟨rfl, rfl⟩))
    (fun os started H enc _ => lifted_FnExactRoundTwice os started H enc)

theorem holds_FnExactRoundTwice : Rows.FnExactRoundTwiceSaid := over_FnExactRoundTwice
#print axioms holds_FnExactRoundTwice
end Go.Proofs.Ytmbjogjdcghacaa
