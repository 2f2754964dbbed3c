/- The law FnExactGridOf returns true for every three numbers. No condition on the input. -/
import Derived.Test.YthhgflopdppmpaaI
import Derived.Test.YthhgflopdppmpaaE
import Derived.Test.YthhgflopdppmpaaD
namespace Go.Proofs.Ythhgflopdppmpaa
open Go.ChangeShapes Go.WideShapes Go.ChangeAt Go.RowKit

theorem gridOfR_length (n m N : Int) : (gridOfR n m N).length ≤ 5 := by
  unfold gridOfR
  split
  · rename_i h
    have h1 := inB_iff.1 (Bool.and_eq_true_iff.1 (Bool.and_eq_true_iff.1 h).1).1
    unfold gOf
    rw [mkG_length]; omega
  · simp

set_option maxHeartbeats 800000 in
theorem walk_FnExactGridOf (w : World) (n : Int) (_lo : -9223372036854775808 ≤ n) (_hi : n ≤ 9223372036854775807) (m : Int) (_lo' : -9223372036854775808 ≤ m) (_hi' : m ≤ 9223372036854775807)
    (N : Int) (lo : -9223372036854775808 ≤ N) (hi : N ≤ 9223372036854775807) :
    Calls Try.prog 6 #[.int .i64 n, .int .i64 m, .int .i64 N] w fun e w' => e = .returned (.bool true) ∧ Below w.heap.size w w' := by
  have hlen := gridOfR_length n m N
  have s1 := fun w => sGridOf_any n m N w lo hi
  have s2 := fun w => iGridOf_any n m N w lo hi
  generalize gridOfB n m N = b at *
  have S1 := Lib.hid s1
  have S2 := Lib.hid s2
  clear s1 s2 _lo _hi _lo' _hi' lo hi
  generalize gridOfR n m N = g at *
  go_enter Try.func6, Try.ntmps6
  go_wp2_with fail
  refine (S1.out _).mono ?_
  rintro e w1 ⟨A1, c1, rfl, ho1, hb1⟩
  go_wp2_with fail
  refine (S2.out _).mono ?_
  rintro e w2 ⟨A2, c2, rfl, ho2, hb2⟩
  have hr1 := (Rd.of_own ho1).below hb2
  have hr2 := Rd.of_own ho2
  have hw2 := below_next hb1 hb2
  go_wp2_with fail
  refine (eqStringS_same _ _ _ _ _ _ _ _ hr2 hr1 (by simp only [maxLen]; omega)).mono ?_
  rintro e w3 ⟨rfl, hd3⟩
  have ho3 := own_keep ho2 (hd3.below _)
  have hw3 := hw2.trans (hd3.below _)
  have hr3 := hr1.below (hd3.below _)
  have hsz3 : w1.heap.size ≤ w3.heap.size := Nat.le_trans hb2.size (hd3.below 0).size
  go_wp2_with fail
  refine (markStringS_any _ _ _ 1 _ _ ho3 (by omega)).mono ?_
  rintro e w4 ⟨rfl, ho4, hg4⟩
  have hge : ∀ k, (Value.slice A2 g.length c2).ownBlock = some k → w1.heap.size ≤ k := fun k hk => own_ge ho3 k hk
  have hw4 := hw3.grown hg4 hw3.size (fun k hk => Nat.le_trans hb1.size (hge k hk))
  have hr4 := hr3.grown hg4 hsz3 hge
  have hsz4 : w1.heap.size ≤ w4.heap.size := Nat.le_trans hsz3 hg4.size
  have hr4' := Rd.of_own ho4
  clear hg4 hge ho3 hr3 hw3 hd3 ho2 hr2 hw2 hr1
  go_wp2_with fail
  refine (heldStringS_any _ _ _ 1 _ _ hr4' (Nat.le_refl _) (by omega)).mono ?_
  rintro e w5 ⟨rfl, hb5⟩
  have ho5 := own_keep ho4 hb5
  have hw5 := below_next hw4 hb5
  have hr5 := hr4.below (hb5.mono hsz4)
  have hsz5 : w1.heap.size ≤ w5.heap.size := Nat.le_trans hsz4 hb5.size
  clear hr4 hr4' ho4 hb5 hw4
  go_wp2_with fail
  refine (S2.out _).mono ?_
  rintro e w6 ⟨A6, c6, rfl, ho6, hb6⟩
  have hr6 := hr5.below (hb6.mono hsz5)
  have hr6' := Rd.of_own ho6
  have ho6' := own_keep ho5 hb6
  have hw6 := below_next hw5 hb6
  go_wp2_with fail
  refine (eqStringS_same _ _ _ _ _ _ _ _ hr6' hr6 (by simp only [maxLen]; omega)).mono ?_
  rintro e w7 ⟨rfl, hd7⟩
  have hr7 := Rd.of_own (own_keep ho6' (hd7.below _))
  have hw7 := hw6.trans (hd7.below _)
  go_wp2_with fail
  refine (heldStringS_any _ _ _ 1 _ _ hr7 (Nat.le_refl _) (by omega)).mono ?_
  rintro e w8 ⟨rfl, hb8⟩
  go_wp2_with fail
  go_ret
  exact ⟨rfl, below_next hw7 hb8⟩

set_option maxRecDepth 100000 in
theorem lifted_FnExactGridOf (os : Os) (started : os.Started) (H : Type) (enc : TypeId × Value → H) :
    ReturnsInHanded {} Try.checked os 6 .any (Rows.fnExactGridOfSpec.pre6 enc Try.prog Try.f6 Rows.fnExactGridOfRow.domain false) (Rows.fnExactGridOfSpec.post enc Try.prog Try.f6 false true false false) := by
  refine returnsInHanded_of_change (C := Try.checked) own_knob started (by kernel_rfl) Try.func6
    (ChangeSpec.witness6 (enc := enc) (C := Try.checked) false ⟨#[], #[.int .i64 0, .int .i64 0, .int .i64 0], []⟩ 8 (by kernel_rfl) (by kernel_rfl) (by kernel_rfl) (by kernel_rfl)) ?_
  intro W base args ds gs before hval0 hW hcnd _
  have hval : ∀ (j : Nat) t v, Try.f6.params[j]? = some t → args[j]? = some v → Value.okWide Try.prog W .any base t v := hval0
  have hW' := hW
  obtain ⟨p, q, hA0, hV, rfl, hfz, hnd⟩ := hW
  have hA : DataW.TrodAll enc Try.prog W 0 (fun _ => true) true Try.f6.params.toList args.toList ds p := hA0
  rw [Try.params6] at hA hval
  obtain ⟨v0, vs0, d0, ds0, p0, q0, hargs, rfl, rfl, h0, r0⟩ := trodAll_cons hA
  obtain ⟨v1, vs1, d1, ds1, p1, q1, rfl, rfl, rfl, h1, r1⟩ := trodAll_cons r0
  obtain ⟨v2, vs2, d2, ds2, p2, q2, rfl, rfl, rfl, h2, r2⟩ := trodAll_cons r1
  obtain ⟨rfl, rfl, rfl⟩ := trodAll_nil r2
  obtain rfl : args = #[v0, v1, v2] := by cases args; simp_all
  obtain ⟨rfl, rfl⟩ := trodVars_none hV
  clear hA0 hval0
  simp only [List.append_nil] at hW'
  have hlt : ∀ x ∈ (p0 ++ (p1 ++ (p2 ++ []))), x.block < W.heap.size := fun x hx => hW'.lt x (by simpa using hx)
  have hlt0 : ∀ x ∈ p0, x.block < W.heap.size := fun x hx => hlt x (by simp [hx])
  have hag0 : ∀ (W' : World), Below W.heap.size W W' → DataW.Trod enc Try.prog W' 0 (fun b => decide (b < W.heap.size)) true 3 v0 d0 p0 :=
    fun W' hn => Below.trod laid_out rd_I (of_decide_eq_true (by kernel_rfl)) h0 hn hlt0
  have hlt1 : ∀ x ∈ p1, x.block < W.heap.size := fun x hx => hlt x (by simp [hx])
  have hag1 : ∀ (W' : World), Below W.heap.size W W' → DataW.Trod enc Try.prog W' 0 (fun b => decide (b < W.heap.size)) true 3 v1 d1 p1 :=
    fun W' hn => Below.trod laid_out rd_I (of_decide_eq_true (by kernel_rfl)) h1 hn hlt1
  have hlt2 : ∀ x ∈ p2, x.block < W.heap.size := fun x hx => hlt x (by simp [hx])
  have hag2 : ∀ (W' : World), Below W.heap.size W W' → DataW.Trod enc Try.prog W' 0 (fun b => decide (b < W.heap.size)) true 3 v2 d2 p2 :=
    fun W' hn => Below.trod laid_out rd_I (of_decide_eq_true (by kernel_rfl)) h2 hn hlt2
  obtain ⟨n0, rfl, lo0, hi0⟩ := open_I (hval 0 3 v0 rfl rfl) h0
  obtain ⟨n1, rfl, lo1, hi1⟩ := open_I (hval 1 3 v1 rfl rfl) h1
  obtain ⟨n2, rfl, lo2, hi2⟩ := open_I (hval 2 3 v2 rfl rfl) h2
  refine (walk_FnExactGridOf W n0 lo0 hi0 n1 lo1 hi1 n2 lo2 hi2).mono fun e W' ⟨he, hb⟩ => ?_
  subst he
  exact ⟨_, rfl, _, _, _, [], (p0 ++ (p1 ++ (p2 ++ []))), [], hW', (trodAll_cons_mk (shut_bool Try.underlying4 _) trodAll_mk0), (trodAll_cons_mk (hag0 W' hb) (trodAll_cons_mk (hag1 W' hb) (trodAll_cons_mk (hag2 W' hb) trodAll_mk0))), rfl, hb.frame _, fun h => by cases h⟩

theorem over_FnExactGridOf : Rows.fnExactGridOfRow.holds Try.pinned (OpenSpec.ofChange Rows.fnExactGridOfSpec) :=
  OpenClaim.holds_of_wide 6 Try.f6 rfl rfl rfl rfl rfl rfl rfl ⟨rfl, rfl, rfl, rfl, rfl⟩ rfl rfl rfl rfl rfl (by kernel_rfl) Try.func6 (by kernel_rfl)
    (of_decide_eq_true (by kernel_rfl)) (by unfold Func.isWrapper; first | (rw [if_pos (by decide +kernel)]; kernel_rfl) | (rw [if_neg (by decide +kernel)]; exact ⟨rfl, rfl⟩))
    (fun os started H enc _ => lifted_FnExactGridOf os started H enc)

theorem holds_FnExactGridOf : Rows.FnExactGridOfSaid := over_FnExactGridOf
#print axioms holds_FnExactGridOf
end Go.Proofs.Ythhgflopdppmpaa
