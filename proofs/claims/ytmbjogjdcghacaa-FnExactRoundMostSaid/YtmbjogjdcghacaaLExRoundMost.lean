/- The law FnExactRoundMost returns true for every two numbers. No condition on the input. -/
import Derived.Test.YtmbjogjdcghacaaBP
import Derived.Test.YtmbjogjdcghacaaD
namespace Go.Proofs.Ytmbjogjdcghacaa
open Go.ChangeShapes Go.WideShapes Go.ChangeAt Go.RowKit

set_option maxHeartbeats 800000 in
theorem walk_FnExactRoundMost (w : World) (n : Int) (lo : -9223372036854775808 ≤ n) (hi : n ≤ 9223372036854775807) (m : Int) (lo' : -9223372036854775808 ≤ m) (hi' : m ≤ 9223372036854775807) :
    Calls Try.prog 3 #[.int .i64 n, .int .i64 m] w fun e w' => e = .returned (.bool true) ∧ Below w.heap.size w w' := by
  have s1 := fun w => sRoundMost_any n m w lo hi lo' hi'
  have s2 := fun w => iRoundMost_any n m w lo hi lo' hi'
  have S1 := Lib.hid s1
  have S2 := Lib.hid s2
  clear s1 s2 lo hi lo' hi'
  generalize mostA n m = K at *
  generalize mostB n m = b at *
  have hkk : ((K : Int) == (K : Int)) = true := beq_self_eq_true _
  have hkn : ((K : Int) != (K : Int)) = false := by simp
  go_enter Try.func3, Try.ntmps3
  go_wp2_with fail
  refine (S1.out _).mono ?_
  rintro e w1 ⟨rfl, hb1⟩
  go_wp2_with fail
  refine (S2.out _).mono ?_
  rintro e w2 ⟨rfl, hb2⟩
  cases b
  · go_wp2
    go_ret
    exact ⟨rfl, below_next hb1 hb2⟩
  · go_wp2
    go_ret
    exact ⟨rfl, below_next hb1 hb2⟩

set_option maxRecDepth 100000 in
theorem lifted_FnExactRoundMost (os : Os) (started : os.Started) (H : Type) (enc : TypeId × Value → H) :
    ReturnsInHanded {} Try.checked os 3 .any (Rows.fnExactRoundMostSpec.pre6 enc Try.prog Try.f3 Rows.fnExactRoundMostRow.domain false) (Rows.fnExactRoundMostSpec.post enc Try.prog Try.f3 false true false false) := by
  refine returnsInHanded_of_change (C := Try.checked) own_knob started (by kernel_rfl) Try.func3
    (ChangeSpec.witness6 (enc := enc) (C := Try.checked) false ⟨#[], #[.int .i64 0, .int .i64 0], []⟩ 8 (by kernel_rfl) (by kernel_rfl) (by kernel_rfl) (by kernel_rfl)) ?_
  intro W base args ds gs before hval0 hW hcnd _
  have hval : ∀ (j : Nat) t v, Try.f3.params[j]? = some t → args[j]? = some v → Value.okWide Try.prog W .any base t v := hval0
  have hW' := hW
  obtain ⟨p, q, hA0, hV, rfl, hfz, hnd⟩ := hW
  have hA : DataW.TrodAll enc Try.prog W 0 (fun _ => true) true Try.f3.params.toList args.toList ds p := hA0
  rw [Try.params3] at hA hval
  obtain ⟨v0, vs0, d0, ds0, p0, q0, hargs, rfl, rfl, h0, r0⟩ := trodAll_cons hA
  obtain ⟨v1, vs1, d1, ds1, p1, q1, rfl, rfl, rfl, h1, r1⟩ := trodAll_cons r0
  obtain ⟨rfl, rfl, rfl⟩ := trodAll_nil r1
  obtain rfl : args = #[v0, v1] := by cases args; simp_all
  obtain ⟨rfl, rfl⟩ := trodVars_none hV
  clear hA0 hval0
  simp only [List.append_nil] at hW'
  have hlt : ∀ x ∈ (p0 ++ (p1 ++ [])), x.block < W.heap.size := fun x hx => hW'.lt x (by simpa using hx)
  have hlt0 : ∀ x ∈ p0, x.block < W.heap.size := fun x hx => hlt x (by simp [hx])
  have hag0 : ∀ (W' : World), Below W.heap.size W W' → DataW.Trod enc Try.prog W' 0 (fun b => decide (b < W.heap.size)) true 3 v0 d0 p0 :=
    fun W' hn => Below.trod laid_out rd_I (of_decide_eq_true (by kernel_rfl)) h0 hn hlt0
  have hlt1 : ∀ x ∈ p1, x.block < W.heap.size := fun x hx => hlt x (by simp [hx])
  have hag1 : ∀ (W' : World), Below W.heap.size W W' → DataW.Trod enc Try.prog W' 0 (fun b => decide (b < W.heap.size)) true 3 v1 d1 p1 :=
    fun W' hn => Below.trod laid_out rd_I (of_decide_eq_true (by kernel_rfl)) h1 hn hlt1
  obtain ⟨n0, rfl, lo0, hi0⟩ := open_I (hval 0 3 v0 rfl rfl) h0
  obtain ⟨n1, rfl, lo1, hi1⟩ := open_I (hval 1 3 v1 rfl rfl) h1
  refine (walk_FnExactRoundMost W n0 lo0 hi0 n1 lo1 hi1).mono fun e W' ⟨he, hb⟩ => ?_
  subst he
  exact ⟨_, rfl, _, _, _, [], (p0 ++ (p1 ++ [])), [], hW', (trodAll_cons_mk (shut_bool Try.underlying4 _) trodAll_mk0), (trodAll_cons_mk (hag0 W' hb) (trodAll_cons_mk (hag1 W' hb) trodAll_mk0)), rfl, hb.frame _, fun h => by cases h⟩

theorem over_FnExactRoundMost : Rows.fnExactRoundMostRow.holds Try.pinned (OpenSpec.ofChange Rows.fnExactRoundMostSpec) :=
  OpenClaim.holds_of_wide 3 Try.f3 rfl rfl rfl rfl rfl rfl rfl ⟨rfl, rfl, rfl, rfl, rfl⟩ rfl rfl rfl rfl rfl (by kernel_rfl) Try.func3 (by kernel_rfl)
    (of_decide_eq_true (by kernel_rfl)) (by unfold Func.isWrapper; first | (rw [if_pos (by decide +kernel)]; kernel_rfl) | (rw [if_neg (by decide +kernel)]; exact ⟨rfl, rfl⟩))
    (fun os started H enc _ => lifted_FnExactRoundMost os started H enc)

theorem holds_FnExactRoundMost : Rows.FnExactRoundMostSaid := over_FnExactRoundMost
#print axioms holds_FnExactRoundMost
end Go.Proofs.Ytmbjogjdcghacaa
