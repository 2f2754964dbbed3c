/- The law FnExactGridTurn returns true for every list of texts and leaves it as it was. No condition on the input. -/
import Derived.Test.YtjnelfgjglpchaaN
import Derived.Test.YtjnelfgjglpchaaE
import Derived.Test.YtjnelfgjglpchaaD
namespace Go.Proofs.Ytjnelfgjglpchaa
open Go.ChangeShapes Go.WideShapes Go.ChangeAt Go.RowKit

theorem len_GridTurn (g : List ByteArray) : (orNone (gridB g) (gTurn g)).length ≤ 5 := by
  cases hg : gridB g
  · exact Nat.zero_le _
  · have h1 := grid_len hg
    have h2 := grid_width hg
    rw [orNone_yes]
    unfold gTurn
    rw [mkG_length]; omega

set_option maxHeartbeats 1600000 in
theorem walk_FnExactGridTurn (w : World) (A : Option Addr) (c : Nat) (g : List ByteArray) (hr : Rd w w.heap.size A (sv g)) (hm : g.length ≤ maxLen) (hs : ∀ s ∈ g, s.size ≤ maxLen) :
    Calls Try.prog 4 #[.slice A g.length c] w fun e w' => e = .returned (.bool true) ∧ Below w.heap.size w w' := by
  by_cases hsz : (g.length : Int) + sumSz g ≤ 1048576
  case neg =>
    have hz : szL g 1048576 = -1 := szL_no (by omega)
    go_enter Try.func4, Try.ntmps4
    go_wp2_with (go_at_call 15; refine (sz_any _ _ _ _ _ _ hr (by decide) (by decide) hm hs).mono ?_; rintro e w' ⟨rfl, rfl⟩)
    go_ret
    exact ⟨rfl, Below.refl _ _⟩
  have hz : 0 ≤ szL g 1048576 := by rw [szL_eq hsz]; omega
  have hg : g.length ≤ 1048576 := by have := sumSz_nonneg g; omega
  have hlen := len_GridTurn g
  have s1 := fun (A : Option Addr) (c : Nat) (w : World) (h : Rd w w.heap.size A (sv g)) => sGridTurn_any A c g w h hm hs
  have s2 := fun (A : Option Addr) (c : Nat) (w : World) (h : Rd w w.heap.size A (sv g)) => iGridTurn_any A c g w h hm hs
  generalize orNone (gridB g) (gTurn g) = R at *
  generalize gridB g = b at *
  have S1 := Lib.hid s1
  have S2 := Lib.hid s2
  clear s1 s2
  go_enter Try.func4, Try.ntmps4
  go_wp2_with fail
  refine (sz_any _ _ _ _ _ _ hr (by decide) (by decide) hm hs).mono ?_
  rintro e w' ⟨rfl, rfl⟩
  go_wp2_with fail
  refine (toStringS_any _ _ _ _ hr hg).mono ?_
  rintro e w1 ⟨A1, c1, rfl, ho1, hb1⟩
  have hr1 := Rd.of_own ho1
  go_wp2_with fail
  refine (S1.out _ _ _ hr1).mono ?_
  rintro e w2 ⟨A2, c2, rfl, ho2, hb2⟩
  have hw2 := below_next hb1 hb2
  have hr2 := Rd.of_own ho2
  clear hr1 ho1 hb1 hb2 ho2
  go_wp2_with fail
  refine (toStringS_any _ _ _ _ (hr.later hw2) hg).mono ?_
  rintro e w3 ⟨A3, c3, rfl, ho3, hb3⟩
  have hr3 := Rd.of_own ho3
  have hw3 := below_next hw2 hb3
  have hr2 := hr2.below hb3
  have hz23 : w2.heap.size ≤ w3.heap.size := hb3.size
  clear hb3
  go_wp2_with fail
  refine (S2.out _ _ _ hr3).mono ?_
  rintro e w4 ⟨A4, c4, rfl, ho4, hb4⟩
  have hr4 := Rd.of_own ho4
  have hw4 := below_next hw3 hb4
  have hr2 := hr2.below (hb4.mono hz23)
  have ho3b := own_lt ho3
  have ho3g := own_ge ho3
  have ho3 := own_keep ho3 hb4
  have hr3 := hr3.below hb4
  have hz34 : w3.heap.size ≤ w4.heap.size := hb4.size
  clear hb4
  go_wp2_with fail
  refine (eqStringS_same _ _ _ _ _ _ _ _ hr4 hr2 (by simp only [maxLen]; omega)).mono ?_
  rintro e w5 ⟨rfl, hd5⟩
  have hw5 := hw4.trans (hd5.below _)
  have hr2 := hr2.below (hd5.below _)
  have hr3 := hr3.below (hd5.below _)
  have ho3 := own_keep ho3 (hd5.below _)
  have ho4 := own_keep ho4 (hd5.below _)
  have hz45 : w4.heap.size ≤ w5.heap.size := (hd5.below 0).size
  clear hd5 hr4
  go_wp2_with fail
  refine (toStringS_any _ _ _ _ (hr.later hw5) hg).mono ?_
  rintro e w6 ⟨A6, c6, rfl, ho6, hb6⟩
  have hr6 := Rd.of_own ho6
  have hw6 := below_next hw5 hb6
  have hr2 := hr2.below (hb6.mono (by omega))
  have hr3 := hr3.below (hb6.mono (by omega))
  have ho3 := own_keep ho3 hb6
  have ho4 := own_keep ho4 hb6
  have hz56 : w5.heap.size ≤ w6.heap.size := hb6.size
  clear hb6 ho6
  go_wp2_with fail
  refine (eqStringS_same _ _ _ _ _ _ _ _ hr3 hr6 hm).mono ?_
  rintro e w7 ⟨rfl, hd7⟩
  have hw7 := hw6.trans (hd7.below _)
  have hr2 := hr2.below (hd7.below _)
  have ho3 := own_keep ho3 (hd7.below _)
  have ho4 := own_keep ho4 (hd7.below _)
  have hz67 : w6.heap.size ≤ w7.heap.size := (hd7.below 0).size
  clear hd7 hr6 hr3
  go_wp2_with fail
  refine (markStringS_any _ _ _ 1 _ _ ho3 (by omega)).mono ?_
  rintro e w8 ⟨rfl, _, hg8⟩
  have hw8 := hw7.grown hg8 hw7.size (fun k hk => Nat.le_trans hw2.size (ho3g k hk))
  have hr2 := hr2.grown hg8 (by omega) (fun k hk => ho3g k hk)
  have ho4 := own_far ho4 hg8 (fun k hk => ho3b k hk)
  have hz78 : w7.heap.size ≤ w8.heap.size := hg8.size
  have hr4 := Rd.of_own ho4
  clear hg8 ho3 ho3b ho3g
  go_wp2_with fail
  refine (eqStringS_same _ _ _ _ _ _ _ _ hr4 hr2 (by simp only [maxLen]; omega)).mono ?_
  rintro e w9 ⟨rfl, hd9⟩
  have hw9 := hw8.trans (hd9.below _)
  have hr2 := hr2.below (hd9.below _)
  have ho4 := own_keep ho4 (hd9.below _)
  have hz89 : w8.heap.size ≤ w9.heap.size := (hd9.below 0).size
  clear hd9 hr4
  go_wp2_with fail
  refine (markStringS_any _ _ _ 1 _ _ ho4 (by omega)).mono ?_
  rintro e w10 ⟨rfl, ho10, hg10⟩
  have ho4g := own_ge ho4
  have hw10 := hw9.grown hg10 hw9.size (fun k hk => Nat.le_trans hw3.size (ho4g k hk))
  have hr2 := hr2.grown hg10 (by omega) (fun k hk => Nat.le_trans hz23 (ho4g k hk))
  have hz9 : w9.heap.size ≤ w10.heap.size := hg10.size
  have hr10 := Rd.of_own ho10
  clear hg10 ho4 ho4g
  go_wp2_with fail
  refine (heldStringS_any _ _ _ 1 _ _ hr10 (Nat.le_refl _) (by omega)).mono ?_
  rintro e w11 ⟨rfl, hb11⟩
  have hw11 := below_next hw10 hb11
  have hr2 := hr2.below (hb11.mono (by omega))
  have ho11 := own_keep ho10 hb11
  have hz10 : w10.heap.size ≤ w11.heap.size := hb11.size
  clear hb11 hr10 ho10
  go_wp2_with fail
  refine (toStringS_any _ _ _ _ (hr.later hw11) hg).mono ?_
  rintro e w12 ⟨A12, c12, rfl, ho12, hb12⟩
  have hr12 := Rd.of_own ho12
  have hw12 := below_next hw11 hb12
  have hr2 := hr2.below (hb12.mono (by omega))
  have ho11 := own_keep ho11 hb12
  have hz11 : w11.heap.size ≤ w12.heap.size := hb12.size
  clear hb12 ho12
  go_wp2_with fail
  refine (S2.out _ _ _ hr12).mono ?_
  rintro e w13 ⟨A13, c13, rfl, ho13, hb13⟩
  have hr13 := Rd.of_own ho13
  have hw13 := below_next hw12 hb13
  have hr2 := hr2.below (hb13.mono (by omega))
  have ho11 := own_keep ho11 hb13
  clear hb13 ho13 hr12
  go_wp2_with fail
  refine (eqStringS_same _ _ _ _ _ _ _ _ hr13 hr2 (by simp only [maxLen]; omega)).mono ?_
  rintro e w14 ⟨rfl, hd14⟩
  have hw14 := hw13.trans (hd14.below _)
  have hr14 := Rd.of_own (own_keep ho11 (hd14.below _))
  clear hd14 hr13 ho11 hr2
  go_wp2_with fail
  refine (heldStringS_any _ _ _ 1 _ _ hr14 (Nat.le_refl _) (by omega)).mono ?_
  rintro e w15 ⟨rfl, hb15⟩
  go_wp2_with fail
  go_ret
  exact ⟨rfl, below_next hw14 hb15⟩

set_option maxRecDepth 100000 in
theorem lifted_FnExactGridTurn (os : Os) (started : os.Started) (H : Type) (enc : TypeId × Value → H) :
    ReturnsInHanded {} Try.checked os 4 .any (Rows.fnExactGridTurnSpec.pre6 enc Try.prog Try.f4 Rows.fnExactGridTurnRow.domain false) (Rows.fnExactGridTurnSpec.post enc Try.prog Try.f4 false true false false) := by
  refine returnsInHanded_of_change (C := Try.checked) own_knob started (by kernel_rfl) Try.func4
    (ChangeSpec.witness6 (enc := enc) (C := Try.checked) false ⟨#[], #[.slice none 0 0], []⟩ 8 (by kernel_rfl) (by kernel_rfl) (by kernel_rfl) (by kernel_rfl)) ?_
  intro W base args ds gs before hval0 hW hcnd _
  have hval : ∀ (j : Nat) t v, Try.f4.params[j]? = some t → args[j]? = some v → Value.okWide Try.prog W .any base t v := hval0
  have hW' := hW
  obtain ⟨p, q, hA0, hV, rfl, hfz, hnd⟩ := hW
  have hA : DataW.TrodAll enc Try.prog W 0 (fun _ => true) true Try.f4.params.toList args.toList ds p := hA0
  rw [Try.params4] at hA hval
  obtain ⟨v0, vs0, d0, ds0, p0, q0, hargs, rfl, rfl, h0, r0⟩ := trodAll_cons hA
  obtain ⟨rfl, rfl, rfl⟩ := trodAll_nil r0
  obtain rfl : args = #[v0] := by cases args; simp_all
  obtain ⟨rfl, rfl⟩ := trodVars_none hV
  clear hA0 hval0
  simp only [List.append_nil] at hW'
  have hlt : ∀ x ∈ (p0 ++ []), x.block < W.heap.size := fun x hx => hW'.lt x (by simpa using hx)
  have hlt0 : ∀ x ∈ p0, x.block < W.heap.size := fun x hx => hlt x (by simp [hx])
  have hag0 : ∀ (W' : World), Below W.heap.size W W' → DataW.Trod enc Try.prog W' 0 (fun b => decide (b < W.heap.size)) true 22 v0 d0 p0 :=
    fun W' hn => Below.trod laid_out rd_S (of_decide_eq_true (by kernel_rfl)) h0 hn hlt0
  obtain ⟨A0, c0, g0, rfl, hr0, hm0, hs0⟩ := open_S (hval 0 22 v0 rfl rfl) h0 hlt0
  refine (walk_FnExactGridTurn W A0 c0 g0 hr0 hm0 hs0).mono fun e W' ⟨he, hb⟩ => ?_
  subst he
  exact ⟨_, rfl, _, _, _, [], (p0 ++ []), [], hW', (trodAll_cons_mk (shut_bool Try.underlying4 _) trodAll_mk0), (trodAll_cons_mk (hag0 W' hb) trodAll_mk0), rfl, hb.frame _, fun h => by cases h⟩

theorem over_FnExactGridTurn : Rows.fnExactGridTurnRow.holds Try.pinned (OpenSpec.ofChange Rows.fnExactGridTurnSpec) :=
  OpenClaim.holds_of_wide 4 Try.f4 rfl rfl rfl rfl rfl rfl rfl ⟨rfl, rfl, rfl, rfl, rfl⟩ rfl rfl rfl rfl rfl (by kernel_rfl) Try.func4 (by kernel_rfl)
    (of_decide_eq_true (by kernel_rfl)) (by unfold Func.isWrapper; first | (rw [if_pos (by decide +kernel)]; kernel_rfl) | (rw [if_neg (by decide +kernel)]; exact ⟨rfl, rfl⟩))
    (fun os started H enc _ => lifted_FnExactGridTurn os started H enc)

theorem holds_FnExactGridTurn : Rows.FnExactGridTurnSaid := over_FnExactGridTurn
#print axioms holds_FnExactGridTurn
end Go.Proofs.Ytjnelfgjglpchaa
