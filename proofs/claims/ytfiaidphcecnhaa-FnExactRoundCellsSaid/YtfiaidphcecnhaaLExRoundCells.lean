/- The law FnExactRoundCells returns true for every input and leaves its lists as they were. No condition on the input. -/
import Derived.Test.YtfiaidphcecnhaaBL
import Derived.Test.YtfiaidphcecnhaaE
import Derived.Test.YtfiaidphcecnhaaD
import Derived.Test.YtfiaidphcecnhaaEI
namespace Go.Proofs.Ytfiaidphcecnhaa
open Go.ChangeShapes Go.WideShapes Go.ChangeAt Go.RowKit

set_option linter.unusedVariables false in
set_option maxHeartbeats 3200000 in
theorem walk_FnExactRoundCells (w : World) (A0 : Option Addr) (c0 : Nat) (g0 : List ByteArray) (hr0 : Rd w w.heap.size A0 (sv g0)) (hm0 : g0.length ≤ maxLen) (hs0 : ∀ s ∈ g0, s.size ≤ maxLen) (n1 : Int) (lo1 : -9223372036854775808 ≤ n1) (hi1 : n1 ≤ 9223372036854775807) (n2 : Int) (lo2 : -9223372036854775808 ≤ n2) (hi2 : n2 ≤ 9223372036854775807) :
    Calls Try.prog 14 #[.slice A0 g0.length c0, .int .i64 n1, .int .i64 n2] w fun e w' => e = .returned (.bool true) ∧ Below w.heap.size w w' := by
  by_cases hsz0 : (g0.length : Int) + sumSz g0 ≤ 1048576
  case neg =>
    have hz : szL g0 (1048576) = -1 := szL_no (by omega)
    go_enter Try.func14, Try.ntmps14
    go_wp2_with fail
    refine (sz_any _ _ _ _ _ _ hr0 (by omega) (by omega) hm0 hs0).mono ?_
    rintro e w' ⟨rfl, rfl⟩
    go_wp2_with fail
    go_ret
    exact ⟨rfl, Below.refl _ _⟩
  have hz0 : 0 ≤ szL g0 (1048576) := by rw [szL_eq hsz0]; omega
  have hle0 : szL g0 (1048576) ≤ 1048576 := by rw [szL_eq hsz0]; have := sumSz_nonneg g0; omega
  have hg0 : g0.length ≤ 1048576 := by have := sumSz_nonneg g0; omega
  have s1 := fun (A0 : Option Addr) (c0 : Nat) (w : World) (h0 : Rd w w.heap.size A0 (sv g0)) (hc0 : g0.length ≤ c0) => sRoundCells_any A0 c0 g0 n1 n2 w h0 hm0 hs0
  have s2 := fun (A0 : Option Addr) (c0 : Nat) (w : World) (h0 : Rd w w.heap.size A0 (sv g0)) (hc0 : g0.length ≤ c0) => iRoundCells_any A0 c0 g0 n1 n2 w h0 hm0 hs0
  have hlen : (ni (cellsR g0 n1 n2)).length ≤ 100 := len_cellsR g0 n1 n2
  generalize ni (cellsR g0 n1 n2) = R at *
  generalize cellsRB g0 n1 n2 = bb at *
  have S1 := Lib.hid s1
  have S2 := Lib.hid s2
  clear s1 s2
  clear lo1 hi1
  clear lo2 hi2
  go_enter Try.func14, Try.ntmps14
  go_wp2_with fail
  refine (sz_any _ _ _ _ _ _ hr0 (by omega) (by omega) hm0 hs0).mono ?_
  rintro e w' ⟨rfl, rfl⟩
  have HM0 := Lib.hid hs0; clear hs0
  go_wp2_with fail
  refine (toStringS_any _ _ _ _ (hr0) hg0).mono ?_
  rintro e w1 ⟨A1x, c1x, rfl, ho1, hb1⟩
  have hw1 := hb1
  have hz_1 : w.heap.size ≤ w1.heap.size := hb1.size
  have hrr1 := Rd.of_own ho1
  have hcap1 := (own_cap ho1).1
  clear ho1
  clear hb1
  go_wp2_with fail
  refine (S1.out _ _ _ (hrr1.more (by omega)) hcap1).mono ?_
  rintro e w2 ⟨A2x, c2x, rfl, ho2, hb2⟩
  have hw2 := below_next hw1 hb2
  have hz_2 : w1.heap.size ≤ w2.heap.size := hb2.size
  have hrr1 := hrr1.below (hb2.mono (by omega))
  have hrr2 := Rd.of_own ho2
  clear hb2 ho2
  clear hrr1
  go_wp2_with fail
  refine (toStringS_any _ _ _ _ (hr0.later hw2) hg0).mono ?_
  rintro e w3 ⟨A3x, c3x, rfl, ho3, hb3⟩
  have hw3 := below_next hw2 hb3
  have hz_3 : w2.heap.size ≤ w3.heap.size := hb3.size
  have hrr2 := hrr2.below (hb3.mono (by omega))
  have hrr3 := Rd.of_own ho3
  have hcap3 := (own_cap ho3).1
  have ho3b := own_lt ho3
  have ho3g := own_ge ho3
  clear hb3
  go_wp2_with fail
  refine (S2.out _ _ _ (hrr3.more (by omega)) hcap3).mono ?_
  rintro e w4 ⟨A4x, c4x, rfl, ho4, hb4⟩
  have hw4 := below_next hw3 hb4
  have hz_4 : w3.heap.size ≤ w4.heap.size := hb4.size
  have hrr2 := hrr2.below (hb4.mono (by omega))
  have hrr3 := hrr3.below (hb4.mono (by omega))
  have ho3 := own_keep ho3 hb4
  have hrr4 := Rd.of_own ho4
  clear hb4
  have ho4b := own_lt ho4
  have ho4g := own_ge ho4
  go_wp2_with fail
  refine (eqIntS_same _ _ _ _ _ _ _ _ hrr4 hrr2 (by simp only [maxLen]; omega)).mono ?_
  rintro e w5 ⟨rfl, hd5⟩
  have hw5 := hw4.trans (hd5.below _)
  have hz_5 : w4.heap.size ≤ w5.heap.size := (hd5.below 0).size
  have hrr2 := hrr2.below (hd5.below _)
  have hrr3 := hrr3.below (hd5.below _)
  have ho3 := own_keep ho3 (hd5.below _)
  have hrr4 := hrr4.below (hd5.below _)
  have ho4 := own_keep ho4 (hd5.below _)
  clear hd5
  go_wp2_with fail
  refine (toStringS_any _ _ _ _ (hr0.later hw5) hg0).mono ?_
  rintro e w6 ⟨A6x, c6x, rfl, ho6, hb6⟩
  have hw6 := below_next hw5 hb6
  have hz_6 : w5.heap.size ≤ w6.heap.size := hb6.size
  have hrr2 := hrr2.below (hb6.mono (by omega))
  have hrr3 := hrr3.below (hb6.mono (by omega))
  have ho3 := own_keep ho3 hb6
  have hrr4 := hrr4.below (hb6.mono (by omega))
  have ho4 := own_keep ho4 hb6
  have hrr6 := Rd.of_own ho6
  have hcap6 := (own_cap ho6).1
  clear ho6
  clear hb6
  go_wp2_with fail
  refine (eqStringS_same _ _ _ _ _ _ _ _ hrr3 hrr6 hm0).mono ?_
  rintro e w7 ⟨rfl, hd7⟩
  have hw7 := hw6.trans (hd7.below _)
  have hz_7 : w6.heap.size ≤ w7.heap.size := (hd7.below 0).size
  have hrr2 := hrr2.below (hd7.below _)
  have hrr3 := hrr3.below (hd7.below _)
  have ho3 := own_keep ho3 (hd7.below _)
  have hrr4 := hrr4.below (hd7.below _)
  have ho4 := own_keep ho4 (hd7.below _)
  have hrr6 := hrr6.below (hd7.below _)
  clear hd7
  clear hrr6
  clear hrr3
  clear hrr4
  go_wp2_with fail
  refine (markStringS_any _ _ _ (1) _ _ ho3 (by omega)).mono ?_
  rintro e w8 ⟨rfl, _, hgr8⟩
  clear ho3
  have hw8 := hw7.grown hgr8 hw7.size (fun k hk => Nat.le_trans hw2.size (ho3g k hk))
  have hz_8 : w7.heap.size ≤ w8.heap.size := hgr8.size
  have hrr2 := hrr2.grown hgr8 (by omega) (fun k hk => Nat.le_trans (by omega) (ho3g k hk))
  have ho4 := own_far ho4 hgr8 (fun k hk => Nat.lt_of_lt_of_le (ho3b k hk) (by omega))
  clear hgr8 ho3b ho3g
  have hrr4 := Rd.of_own ho4
  go_wp2_with fail
  refine (eqIntS_same _ _ _ _ _ _ _ _ hrr4 hrr2 (by simp only [maxLen]; omega)).mono ?_
  rintro e w9 ⟨rfl, hd9⟩
  have hw9 := hw8.trans (hd9.below _)
  have hz_9 : w8.heap.size ≤ w9.heap.size := (hd9.below 0).size
  have hrr2 := hrr2.below (hd9.below _)
  have ho4 := own_keep ho4 (hd9.below _)
  have hrr4 := hrr4.below (hd9.below _)
  clear hd9
  clear hrr4
  go_wp2_with fail
  refine (markIntS_any _ _ _ 1 _ _ ho4 (by omega)).mono ?_
  rintro e w10 ⟨rfl, hom, hgr10⟩
  clear ho4
  have hw10 := hw9.grown hgr10 hw9.size (fun k hk => Nat.le_trans hw3.size (ho4g k hk))
  have hz_10 : w9.heap.size ≤ w10.heap.size := hgr10.size
  have hrr2 := hrr2.grown hgr10 (by omega) (fun k hk => Nat.le_trans (by omega) (ho4g k hk))
  clear hgr10 ho4b ho4g
  have hrm := Rd.of_own hom
  go_wp2_with fail
  refine (heldIntS_any _ _ _ 1 _ _ hrm (by omega)).mono ?_
  rintro e w11 ⟨rfl, hd11⟩
  have hw11 := hw10.trans (hd11.below _)
  have hz_11 : w10.heap.size ≤ w11.heap.size := (hd11.below 0).size
  have hrr2 := hrr2.below (hd11.below _)
  have hom := own_keep hom (hd11.below _)
  clear hd11 hrm
  go_wp2_with fail
  refine (toStringS_any _ _ _ _ (hr0.later hw11) hg0).mono ?_
  rintro e w12 ⟨A12x, c12x, rfl, ho12, hb12⟩
  have hw12 := below_next hw11 hb12
  have hz_12 : w11.heap.size ≤ w12.heap.size := hb12.size
  have hrr2 := hrr2.below (hb12.mono (by omega))
  have hom := own_keep hom hb12
  have hrr12 := Rd.of_own ho12
  have hcap12 := (own_cap ho12).1
  clear ho12
  clear hb12
  go_wp2_with fail
  refine (S2.out _ _ _ (hrr12.more (by omega)) hcap12).mono ?_
  rintro e w13 ⟨A13x, c13x, rfl, ho13, hb13⟩
  have hw13 := below_next hw12 hb13
  have hz_13 : w12.heap.size ≤ w13.heap.size := hb13.size
  have hrr2 := hrr2.below (hb13.mono (by omega))
  have hom := own_keep hom hb13
  have hrr12 := hrr12.below (hb13.mono (by omega))
  have hrr13 := Rd.of_own ho13
  clear hb13 ho13
  clear hrr12
  go_wp2_with fail
  refine (eqIntS_same _ _ _ _ _ _ _ _ hrr13 hrr2 (by simp only [maxLen]; omega)).mono ?_
  rintro e w14 ⟨rfl, hd14⟩
  have hw14 := hw13.trans (hd14.below _)
  have hz_14 : w13.heap.size ≤ w14.heap.size := (hd14.below 0).size
  have hrr2 := hrr2.below (hd14.below _)
  have hom := own_keep hom (hd14.below _)
  have hrr13 := hrr13.below (hd14.below _)
  clear hd14
  have hrm := Rd.of_own hom
  go_wp2_with fail
  refine (heldIntS_any _ _ _ 1 _ _ hrm (by omega)).mono ?_
  rintro e w15 ⟨rfl, hd15⟩
  go_wp2_with fail
  go_ret
  exact ⟨rfl, hw14.trans (hd15.below _)⟩

set_option maxRecDepth 100000 in
theorem lifted_FnExactRoundCells (os : Os) (started : os.Started) (H : Type) (enc : TypeId × Value → H) :
    ReturnsInHanded {} Try.checked os 14 .any (Rows.fnExactRoundCellsSpec.pre6 enc Try.prog Try.f14 Rows.fnExactRoundCellsRow.domain false) (Rows.fnExactRoundCellsSpec.post enc Try.prog Try.f14 false true false false) := by
  refine returnsInHanded_of_change (C := Try.checked) own_knob started (by kernel_rfl) Try.func14
    (ChangeSpec.witness6 (enc := enc) (C := Try.checked) false ⟨#[], #[.slice none 0 0, .int .i64 0, .int .i64 0], []⟩ 8 (by kernel_rfl) (by kernel_rfl) (by kernel_rfl) (by kernel_rfl)) ?_
  intro W base args ds gs before hval0 hW hcnd _
  have hval : ∀ (j : Nat) t v, Try.f14.params[j]? = some t → args[j]? = some v → Value.okWide Try.prog W .any base t v := hval0
  have hW' := hW
  obtain ⟨p, q, hA0, hV, rfl, hfz, hnd⟩ := hW
  have hA : DataW.TrodAll enc Try.prog W 0 (fun _ => true) true Try.f14.params.toList args.toList ds p := hA0
  rw [Try.params14] at hA hval
  obtain ⟨v0, vs0, d0, ds0, p0, q0, hargs, rfl, rfl, h0, r0⟩ := trodAll_cons hA
  obtain ⟨v1, vs1, d1, ds1, p1, q1, rfl, rfl, rfl, h1, r1⟩ := trodAll_cons r0
  obtain ⟨v2, vs2, d2, ds2, p2, q2, rfl, rfl, rfl, h2, r2⟩ := trodAll_cons r1
  obtain ⟨rfl, rfl, rfl⟩ := trodAll_nil r2
  obtain rfl : args = #[v0, v1, v2] := by cases args; simp_all
  obtain ⟨rfl, rfl⟩ := trodVars_none hV
  clear hA0 hval0
  simp only [List.append_nil] at hW'
  have hlt : ∀ x ∈ (p0 ++ (p1 ++ (p2 ++ []))), x.block < W.heap.size := fun x hx => hW'.lt x (by simpa using hx)
  have hlt0 : ∀ x ∈ p0, x.block < W.heap.size := fun x hx => hlt x (by simp [hx])
  have hag0 : ∀ (W' : World), Below W.heap.size W W' → DataW.Trod enc Try.prog W' 0 (fun b => decide (b < W.heap.size)) true 22 v0 d0 p0 :=
    fun W' hn => Below.trod laid_out rd_S (of_decide_eq_true (by kernel_rfl)) h0 hn hlt0
  have hlt1 : ∀ x ∈ p1, x.block < W.heap.size := fun x hx => hlt x (by simp [hx])
  have hag1 : ∀ (W' : World), Below W.heap.size W W' → DataW.Trod enc Try.prog W' 0 (fun b => decide (b < W.heap.size)) true 3 v1 d1 p1 :=
    fun W' hn => Below.trod laid_out rd_I (of_decide_eq_true (by kernel_rfl)) h1 hn hlt1
  have hlt2 : ∀ x ∈ p2, x.block < W.heap.size := fun x hx => hlt x (by simp [hx])
  have hag2 : ∀ (W' : World), Below W.heap.size W W' → DataW.Trod enc Try.prog W' 0 (fun b => decide (b < W.heap.size)) true 3 v2 d2 p2 :=
    fun W' hn => Below.trod laid_out rd_I (of_decide_eq_true (by kernel_rfl)) h2 hn hlt2
  obtain ⟨A0, c0, g0, rfl, hr0, hm0, hs0⟩ := open_S (hval 0 22 v0 rfl rfl) h0 hlt0
  obtain ⟨n1, rfl, lo1, hi1⟩ := open_I (hval 1 3 v1 rfl rfl) h1
  obtain ⟨n2, rfl, lo2, hi2⟩ := open_I (hval 2 3 v2 rfl rfl) h2
  refine (walk_FnExactRoundCells W A0 c0 g0 hr0 hm0 hs0 n1 lo1 hi1 n2 lo2 hi2).mono fun e W' ⟨he, hb⟩ => ?_
  subst he
  exact ⟨_, rfl, _, _, _, [], (p0 ++ (p1 ++ (p2 ++ []))), [], hW', (trodAll_cons_mk (shut_bool Try.underlying4 _) trodAll_mk0), (trodAll_cons_mk (hag0 W' hb) (trodAll_cons_mk (hag1 W' hb) (trodAll_cons_mk (hag2 W' hb) trodAll_mk0))), rfl, hb.frame _, fun h => by cases h⟩

theorem over_FnExactRoundCells : Rows.fnExactRoundCellsRow.holds Try.pinned (OpenSpec.ofChange Rows.fnExactRoundCellsSpec) :=
  OpenClaim.holds_of_wide 14 Try.f14 rfl rfl rfl rfl rfl rfl rfl ⟨rfl, rfl, rfl, rfl, rfl⟩ rfl rfl rfl rfl rfl (by kernel_rfl) Try.func14 (by kernel_rfl)
    (of_decide_eq_true (by kernel_rfl)) (by unfold Func.isWrapper; first | (rw [if_pos (by decide +kernel)]; kernel_rfl) | (rw [if_neg (by decide +kernel)]; exact ⟨rfl, rfl⟩))
    (fun os started H enc _ => lifted_FnExactRoundCells os started H enc)

theorem holds_FnExactRoundCells : Rows.FnExactRoundCellsSaid := over_FnExactRoundCells
#print axioms holds_FnExactRoundCells
end Go.Proofs.Ytfiaidphcecnhaa
