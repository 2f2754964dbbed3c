/- The law FnExactGridBeside returns true for every input and leaves its lists as they were. No condition on the input. -/
import Derived.Test.YthhgflopdppmpaaO
import Derived.Test.YthhgflopdppmpaaE
import Derived.Test.YthhgflopdppmpaaD
namespace Go.Proofs.Ythhgflopdppmpaa
open Go.ChangeShapes Go.WideShapes Go.ChangeAt Go.RowKit

set_option linter.unusedVariables false in
set_option maxHeartbeats 3200000 in
theorem walk_FnExactGridBeside (w : World) (A0 : Option Addr) (c0 : Nat) (g0 : List ByteArray) (hr0 : Rd w w.heap.size A0 (sv g0)) (hm0 : g0.length ≤ maxLen) (hs0 : ∀ s ∈ g0, s.size ≤ maxLen) (A1 : Option Addr) (c1 : Nat) (g1 : List ByteArray) (hr1 : Rd w w.heap.size A1 (sv g1)) (hm1 : g1.length ≤ maxLen) (hs1 : ∀ s ∈ g1, s.size ≤ maxLen) :
    Calls Try.prog 12 #[.slice A0 g0.length c0, .slice A1 g1.length c1] w fun e w' => e = .returned (.bool true) ∧ Below w.heap.size w w' := by
  by_cases hsz0 : (g0.length : Int) + sumSz g0 ≤ 1048576
  case neg =>
    have hz : szL g0 (1048576) = -1 := szL_no (by omega)
    go_enter Try.func12, Try.ntmps12
    go_wp2_with fail
    refine (sz_any _ _ _ _ _ _ hr0 (by omega) (by omega) hm0 hs0).mono ?_
    rintro e w' ⟨rfl, rfl⟩
    go_wp2_with fail
    go_ret
    exact ⟨rfl, Below.refl _ _⟩
  by_cases hsz1 : (g1.length : Int) + sumSz g1 ≤ szL g0 (1048576)
  case neg =>
    have hz0 : 0 ≤ szL g0 (1048576) := by rw [szL_eq hsz0]; have := sumSz_nonneg g0; omega
    have hz : szL g1 (szL g0 (1048576)) = -1 := szL_no (by omega)
    have hle0 : szL g0 (1048576) ≤ 1048576 := by rw [szL_eq hsz0]; have := sumSz_nonneg g0; omega
    go_enter Try.func12, Try.ntmps12
    go_wp2_with fail
    refine (sz_any _ _ _ _ _ _ hr0 (by omega) (by omega) hm0 hs0).mono ?_
    rintro e w' ⟨rfl, rfl⟩
    go_wp2_with fail
    refine (sz_any _ _ _ _ _ _ hr1 (by omega) (by omega) hm1 hs1).mono ?_
    rintro e w' ⟨rfl, rfl⟩
    go_wp2_with fail
    go_ret
    exact ⟨rfl, Below.refl _ _⟩
  have hz0 : 0 ≤ szL g0 (1048576) := by rw [szL_eq hsz0]; omega
  have hle0 : szL g0 (1048576) ≤ 1048576 := by rw [szL_eq hsz0]; have := sumSz_nonneg g0; omega
  have hg0 : g0.length ≤ 1048576 := by have := sumSz_nonneg g0; omega
  have hz1 : 0 ≤ szL g1 (szL g0 (1048576)) := by rw [szL_eq hsz1]; omega
  have hle1 : szL g1 (szL g0 (1048576)) ≤ 1048576 := by rw [szL_eq hsz1]; have := sumSz_nonneg g1; omega
  have hg1 : g1.length ≤ 1048576 := by have := sumSz_nonneg g1; omega
  have s1 := fun (A0 : Option Addr) (c0 : Nat) (A1 : Option Addr) (c1 : Nat) (w : World) (h0 : Rd w w.heap.size A0 (sv g0)) (hc0 : g0.length ≤ c0) (h1 : Rd w w.heap.size A1 (sv g1)) (hc1 : g1.length ≤ c1) => sGridBeside_any A0 A1 c0 c1 g0 g1 w h0 h1 hm0 hs0 hm1 hs1
  have s2 := fun (A0 : Option Addr) (c0 : Nat) (A1 : Option Addr) (c1 : Nat) (w : World) (h0 : Rd w w.heap.size A0 (sv g0)) (hc0 : g0.length ≤ c0) (h1 : Rd w w.heap.size A1 (sv g1)) (hc1 : g1.length ≤ c1) => iGridBeside_any A0 A1 c0 c1 g0 g1 w h0 h1 hm0 hs0 hm1 hs1
  have hlen : (orNone2 (besideB g0 g1) (gBeside g0 g1)).length ≤ 100 := len_gridbeside g0 g1
  generalize orNone2 (besideB g0 g1) (gBeside g0 g1) = R at *
  generalize besideB g0 g1 = bb at *
  have S1 := Lib.hid s1
  have S2 := Lib.hid s2
  clear s1 s2
  go_enter Try.func12, Try.ntmps12
  go_wp2_with fail
  refine (sz_any _ _ _ _ _ _ hr0 (by omega) (by omega) hm0 hs0).mono ?_
  rintro e w' ⟨rfl, rfl⟩
  go_wp2_with fail
  refine (sz_any _ _ _ _ _ _ hr1 (by omega) (by omega) hm1 hs1).mono ?_
  rintro e w' ⟨rfl, rfl⟩
  have HM0 := Lib.hid hs0; clear hs0
  have HM1 := Lib.hid hs1; clear hs1
  go_wp2_with fail
  refine (toStringS_any _ _ _ _ (hr0) hg0).mono ?_
  rintro e w1 ⟨A1x, c1x, rfl, ho1, hb1⟩
  have hw1 := hb1
  have hz_1 : w.heap.size ≤ w1.heap.size := hb1.size
  have hrr1 := Rd.of_own ho1
  have hcap1 := (own_cap ho1).1
  clear ho1
  clear hb1
  go_wp2_with fail
  refine (toStringS_any _ _ _ _ (hr1.later hw1) hg1).mono ?_
  rintro e w2 ⟨A2x, c2x, rfl, ho2, hb2⟩
  have hw2 := below_next hw1 hb2
  have hz_2 : w1.heap.size ≤ w2.heap.size := hb2.size
  have hrr1 := hrr1.below (hb2.mono (by omega))
  have hrr2 := Rd.of_own ho2
  have hcap2 := (own_cap ho2).1
  clear ho2
  clear hb2
  go_wp2_with fail
  refine (S1.out _ _ _ _ _ (hrr1.more (by omega)) hcap1 (hrr2.more (by omega)) hcap2).mono ?_
  rintro e w3 ⟨A3x, c3x, rfl, ho3, hb3⟩
  have hw3 := below_next hw2 hb3
  have hz_3 : w2.heap.size ≤ w3.heap.size := hb3.size
  have hrr1 := hrr1.below (hb3.mono (by omega))
  have hrr2 := hrr2.below (hb3.mono (by omega))
  have hrr3 := Rd.of_own ho3
  clear hb3 ho3
  clear hrr1
  clear hrr2
  go_wp2_with fail
  refine (toStringS_any _ _ _ _ (hr0.later hw3) hg0).mono ?_
  rintro e w4 ⟨A4x, c4x, rfl, ho4, hb4⟩
  have hw4 := below_next hw3 hb4
  have hz_4 : w3.heap.size ≤ w4.heap.size := hb4.size
  have hrr3 := hrr3.below (hb4.mono (by omega))
  have hrr4 := Rd.of_own ho4
  have hcap4 := (own_cap ho4).1
  have ho4b := own_lt ho4
  have ho4g := own_ge ho4
  clear hb4
  go_wp2_with fail
  refine (toStringS_any _ _ _ _ (hr1.later hw4) hg1).mono ?_
  rintro e w5 ⟨A5x, c5x, rfl, ho5, hb5⟩
  have hw5 := below_next hw4 hb5
  have hz_5 : w4.heap.size ≤ w5.heap.size := hb5.size
  have hrr3 := hrr3.below (hb5.mono (by omega))
  have hrr4 := hrr4.below (hb5.mono (by omega))
  have ho4 := own_keep ho4 hb5
  have hrr5 := Rd.of_own ho5
  have hcap5 := (own_cap ho5).1
  have ho5b := own_lt ho5
  have ho5g := own_ge ho5
  clear hb5
  go_wp2_with fail
  refine (S2.out _ _ _ _ _ (hrr4.more (by omega)) hcap4 (hrr5.more (by omega)) hcap5).mono ?_
  rintro e w6 ⟨A6x, c6x, rfl, ho6, hb6⟩
  have hw6 := below_next hw5 hb6
  have hz_6 : w5.heap.size ≤ w6.heap.size := hb6.size
  have hrr3 := hrr3.below (hb6.mono (by omega))
  have hrr4 := hrr4.below (hb6.mono (by omega))
  have ho4 := own_keep ho4 hb6
  have hrr5 := hrr5.below (hb6.mono (by omega))
  have ho5 := own_keep ho5 hb6
  have hrr6 := Rd.of_own ho6
  clear hb6
  have ho6b := own_lt ho6
  have ho6g := own_ge ho6
  go_wp2_with fail
  refine (eqStringS_same _ _ _ _ _ _ _ _ hrr6 hrr3 (by simp only [maxLen]; omega)).mono ?_
  rintro e w7 ⟨rfl, hd7⟩
  have hw7 := hw6.trans (hd7.below _)
  have hz_7 : w6.heap.size ≤ w7.heap.size := (hd7.below 0).size
  have hrr3 := hrr3.below (hd7.below _)
  have hrr4 := hrr4.below (hd7.below _)
  have ho4 := own_keep ho4 (hd7.below _)
  have hrr5 := hrr5.below (hd7.below _)
  have ho5 := own_keep ho5 (hd7.below _)
  have hrr6 := hrr6.below (hd7.below _)
  have ho6 := own_keep ho6 (hd7.below _)
  clear hd7
  go_wp2_with fail
  refine (toStringS_any _ _ _ _ (hr0.later hw7) hg0).mono ?_
  rintro e w8 ⟨A8x, c8x, rfl, ho8, hb8⟩
  have hw8 := below_next hw7 hb8
  have hz_8 : w7.heap.size ≤ w8.heap.size := hb8.size
  have hrr3 := hrr3.below (hb8.mono (by omega))
  have hrr4 := hrr4.below (hb8.mono (by omega))
  have ho4 := own_keep ho4 hb8
  have hrr5 := hrr5.below (hb8.mono (by omega))
  have ho5 := own_keep ho5 hb8
  have hrr6 := hrr6.below (hb8.mono (by omega))
  have ho6 := own_keep ho6 hb8
  have hrr8 := Rd.of_own ho8
  have hcap8 := (own_cap ho8).1
  clear ho8
  clear hb8
  go_wp2_with fail
  refine (eqStringS_same _ _ _ _ _ _ _ _ hrr4 hrr8 hm0).mono ?_
  rintro e w9 ⟨rfl, hd9⟩
  have hw9 := hw8.trans (hd9.below _)
  have hz_9 : w8.heap.size ≤ w9.heap.size := (hd9.below 0).size
  have hrr3 := hrr3.below (hd9.below _)
  have hrr4 := hrr4.below (hd9.below _)
  have ho4 := own_keep ho4 (hd9.below _)
  have hrr5 := hrr5.below (hd9.below _)
  have ho5 := own_keep ho5 (hd9.below _)
  have hrr6 := hrr6.below (hd9.below _)
  have ho6 := own_keep ho6 (hd9.below _)
  have hrr8 := hrr8.below (hd9.below _)
  clear hd9
  clear hrr8
  clear hrr4
  go_wp2_with fail
  refine (toStringS_any _ _ _ _ (hr1.later hw9) hg1).mono ?_
  rintro e w10 ⟨A10x, c10x, rfl, ho10, hb10⟩
  have hw10 := below_next hw9 hb10
  have hz_10 : w9.heap.size ≤ w10.heap.size := hb10.size
  have hrr3 := hrr3.below (hb10.mono (by omega))
  have ho4 := own_keep ho4 hb10
  have hrr5 := hrr5.below (hb10.mono (by omega))
  have ho5 := own_keep ho5 hb10
  have hrr6 := hrr6.below (hb10.mono (by omega))
  have ho6 := own_keep ho6 hb10
  have hrr10 := Rd.of_own ho10
  have hcap10 := (own_cap ho10).1
  clear ho10
  clear hb10
  go_wp2_with fail
  refine (eqStringS_same _ _ _ _ _ _ _ _ hrr5 hrr10 hm1).mono ?_
  rintro e w11 ⟨rfl, hd11⟩
  have hw11 := hw10.trans (hd11.below _)
  have hz_11 : w10.heap.size ≤ w11.heap.size := (hd11.below 0).size
  have hrr3 := hrr3.below (hd11.below _)
  have ho4 := own_keep ho4 (hd11.below _)
  have hrr5 := hrr5.below (hd11.below _)
  have ho5 := own_keep ho5 (hd11.below _)
  have hrr6 := hrr6.below (hd11.below _)
  have ho6 := own_keep ho6 (hd11.below _)
  have hrr10 := hrr10.below (hd11.below _)
  clear hd11
  clear hrr10
  clear hrr5
  clear hrr6
  go_wp2_with fail
  refine (markStringS_any _ _ _ (1) _ _ ho4 (by omega)).mono ?_
  rintro e w12 ⟨rfl, _, hgr12⟩
  clear ho4
  have hw12 := hw11.grown hgr12 hw11.size (fun k hk => Nat.le_trans hw3.size (ho4g k hk))
  have hz_12 : w11.heap.size ≤ w12.heap.size := hgr12.size
  have hrr3 := hrr3.grown hgr12 (by omega) (fun k hk => Nat.le_trans (by omega) (ho4g k hk))
  have ho5 := own_far ho5 hgr12 (fun k hk => Nat.lt_of_lt_of_le (ho4b k hk) (by omega))
  have ho6 := own_far ho6 hgr12 (fun k hk => Nat.lt_of_lt_of_le (ho4b k hk) (by omega))
  clear hgr12 ho4b ho4g
  go_wp2_with fail
  refine (markStringS_any _ _ _ (1 + g0.length) _ _ ho5 (by omega)).mono ?_
  rintro e w13 ⟨rfl, _, hgr13⟩
  clear ho5
  have hw13 := hw12.grown hgr13 hw12.size (fun k hk => Nat.le_trans hw4.size (ho5g k hk))
  have hz_13 : w12.heap.size ≤ w13.heap.size := hgr13.size
  have hrr3 := hrr3.grown hgr13 (by omega) (fun k hk => Nat.le_trans (by omega) (ho5g k hk))
  have ho6 := own_far ho6 hgr13 (fun k hk => Nat.lt_of_lt_of_le (ho5b k hk) (by omega))
  clear hgr13 ho5b ho5g
  have hrr6 := Rd.of_own ho6
  go_wp2_with fail
  refine (eqStringS_same _ _ _ _ _ _ _ _ hrr6 hrr3 (by simp only [maxLen]; omega)).mono ?_
  rintro e w14 ⟨rfl, hd14⟩
  have hw14 := hw13.trans (hd14.below _)
  have hz_14 : w13.heap.size ≤ w14.heap.size := (hd14.below 0).size
  have hrr3 := hrr3.below (hd14.below _)
  have ho6 := own_keep ho6 (hd14.below _)
  have hrr6 := hrr6.below (hd14.below _)
  clear hd14
  clear hrr6
  go_wp2_with fail
  refine (markStringS_any _ _ _ 1 _ _ ho6 (by omega)).mono ?_
  rintro e w15 ⟨rfl, hom, hgr15⟩
  clear ho6
  have hw15 := hw14.grown hgr15 hw14.size (fun k hk => Nat.le_trans hw5.size (ho6g k hk))
  have hz_15 : w14.heap.size ≤ w15.heap.size := hgr15.size
  have hrr3 := hrr3.grown hgr15 (by omega) (fun k hk => Nat.le_trans (by omega) (ho6g k hk))
  clear hgr15 ho6b ho6g
  have hrm := Rd.of_own hom
  go_wp2_with fail
  refine (heldStringS_any _ _ _ 1 _ _ hrm (Nat.le_refl _) (by omega)).mono ?_
  rintro e w16 ⟨rfl, hb16⟩
  have hw16 := below_next hw15 hb16
  have hz_16 : w15.heap.size ≤ w16.heap.size := hb16.size
  have hrr3 := hrr3.below (hb16.mono (by omega))
  have hom := own_keep hom hb16
  clear hb16 hrm
  go_wp2_with fail
  refine (toStringS_any _ _ _ _ (hr0.later hw16) hg0).mono ?_
  rintro e w17 ⟨A17x, c17x, rfl, ho17, hb17⟩
  have hw17 := below_next hw16 hb17
  have hz_17 : w16.heap.size ≤ w17.heap.size := hb17.size
  have hrr3 := hrr3.below (hb17.mono (by omega))
  have hom := own_keep hom hb17
  have hrr17 := Rd.of_own ho17
  have hcap17 := (own_cap ho17).1
  clear ho17
  clear hb17
  go_wp2_with fail
  refine (toStringS_any _ _ _ _ (hr1.later hw17) hg1).mono ?_
  rintro e w18 ⟨A18x, c18x, rfl, ho18, hb18⟩
  have hw18 := below_next hw17 hb18
  have hz_18 : w17.heap.size ≤ w18.heap.size := hb18.size
  have hrr3 := hrr3.below (hb18.mono (by omega))
  have hom := own_keep hom hb18
  have hrr17 := hrr17.below (hb18.mono (by omega))
  have hrr18 := Rd.of_own ho18
  have hcap18 := (own_cap ho18).1
  clear ho18
  clear hb18
  go_wp2_with fail
  refine (S2.out _ _ _ _ _ (hrr17.more (by omega)) hcap17 (hrr18.more (by omega)) hcap18).mono ?_
  rintro e w19 ⟨A19x, c19x, rfl, ho19, hb19⟩
  have hw19 := below_next hw18 hb19
  have hz_19 : w18.heap.size ≤ w19.heap.size := hb19.size
  have hrr3 := hrr3.below (hb19.mono (by omega))
  have hom := own_keep hom hb19
  have hrr17 := hrr17.below (hb19.mono (by omega))
  have hrr18 := hrr18.below (hb19.mono (by omega))
  have hrr19 := Rd.of_own ho19
  clear hb19 ho19
  clear hrr17
  clear hrr18
  go_wp2_with fail
  refine (eqStringS_same _ _ _ _ _ _ _ _ hrr19 hrr3 (by simp only [maxLen]; omega)).mono ?_
  rintro e w20 ⟨rfl, hd20⟩
  have hw20 := hw19.trans (hd20.below _)
  have hz_20 : w19.heap.size ≤ w20.heap.size := (hd20.below 0).size
  have hrr3 := hrr3.below (hd20.below _)
  have hom := own_keep hom (hd20.below _)
  have hrr19 := hrr19.below (hd20.below _)
  clear hd20
  have hrm := Rd.of_own hom
  go_wp2_with fail
  refine (heldStringS_any _ _ _ 1 _ _ hrm (Nat.le_refl _) (by omega)).mono ?_
  rintro e w21 ⟨rfl, hb21⟩
  go_wp2_with fail
  go_ret
  exact ⟨rfl, below_next hw20 hb21⟩

set_option maxRecDepth 100000 in
theorem lifted_FnExactGridBeside (os : Os) (started : os.Started) (H : Type) (enc : TypeId × Value → H) :
    ReturnsInHanded {} Try.checked os 12 .any (Rows.fnExactGridBesideSpec.pre6 enc Try.prog Try.f12 Rows.fnExactGridBesideRow.domain false) (Rows.fnExactGridBesideSpec.post enc Try.prog Try.f12 false true false false) := by
  refine returnsInHanded_of_change (C := Try.checked) own_knob started (by kernel_rfl) Try.func12
    (ChangeSpec.witness6 (enc := enc) (C := Try.checked) false ⟨#[], #[.slice none 0 0, .slice none 0 0], []⟩ 8 (by kernel_rfl) (by kernel_rfl) (by kernel_rfl) (by kernel_rfl)) ?_
  intro W base args ds gs before hval0 hW hcnd _
  have hval : ∀ (j : Nat) t v, Try.f12.params[j]? = some t → args[j]? = some v → Value.okWide Try.prog W .any base t v := hval0
  have hW' := hW
  obtain ⟨p, q, hA0, hV, rfl, hfz, hnd⟩ := hW
  have hA : DataW.TrodAll enc Try.prog W 0 (fun _ => true) true Try.f12.params.toList args.toList ds p := hA0
  rw [Try.params12] at hA hval
  obtain ⟨v0, vs0, d0, ds0, p0, q0, hargs, rfl, rfl, h0, r0⟩ := trodAll_cons hA
  obtain ⟨v1, vs1, d1, ds1, p1, q1, rfl, rfl, rfl, h1, r1⟩ := trodAll_cons r0
  obtain ⟨rfl, rfl, rfl⟩ := trodAll_nil r1
  obtain rfl : args = #[v0, v1] := by cases args; simp_all
  obtain ⟨rfl, rfl⟩ := trodVars_none hV
  clear hA0 hval0
  simp only [List.append_nil] at hW'
  have hlt : ∀ x ∈ (p0 ++ (p1 ++ [])), x.block < W.heap.size := fun x hx => hW'.lt x (by simpa using hx)
  have hlt0 : ∀ x ∈ p0, x.block < W.heap.size := fun x hx => hlt x (by simp [hx])
  have hag0 : ∀ (W' : World), Below W.heap.size W W' → DataW.Trod enc Try.prog W' 0 (fun b => decide (b < W.heap.size)) true 23 v0 d0 p0 :=
    fun W' hn => Below.trod laid_out rd_S (of_decide_eq_true (by kernel_rfl)) h0 hn hlt0
  have hlt1 : ∀ x ∈ p1, x.block < W.heap.size := fun x hx => hlt x (by simp [hx])
  have hag1 : ∀ (W' : World), Below W.heap.size W W' → DataW.Trod enc Try.prog W' 0 (fun b => decide (b < W.heap.size)) true 23 v1 d1 p1 :=
    fun W' hn => Below.trod laid_out rd_S (of_decide_eq_true (by kernel_rfl)) h1 hn hlt1
  obtain ⟨A0, c0, g0, rfl, hr0, hm0, hs0⟩ := open_S (hval 0 23 v0 rfl rfl) h0 hlt0
  obtain ⟨A1, c1, g1, rfl, hr1, hm1, hs1⟩ := open_S (hval 1 23 v1 rfl rfl) h1 hlt1
  refine (walk_FnExactGridBeside W A0 c0 g0 hr0 hm0 hs0 A1 c1 g1 hr1 hm1 hs1).mono fun e W' ⟨he, hb⟩ => ?_
  subst he
  exact ⟨_, rfl, _, _, _, [], (p0 ++ (p1 ++ [])), [], hW', (trodAll_cons_mk (shut_bool Try.underlying4 _) trodAll_mk0), (trodAll_cons_mk (hag0 W' hb) (trodAll_cons_mk (hag1 W' hb) trodAll_mk0)), rfl, hb.frame _, fun h => by cases h⟩

theorem over_FnExactGridBeside : Rows.fnExactGridBesideRow.holds Try.pinned (OpenSpec.ofChange Rows.fnExactGridBesideSpec) :=
  OpenClaim.holds_of_wide 12 Try.f12 rfl rfl rfl rfl rfl rfl rfl ⟨rfl, rfl, rfl, rfl, rfl⟩ rfl rfl rfl rfl rfl (by kernel_rfl) Try.func12 (by kernel_rfl)
    (of_decide_eq_true (by kernel_rfl)) (by unfold Func.isWrapper; first | (rw [if_pos (by decide +kernel)]; kernel_rfl) | (rw [if_neg (by decide +kernel)]; exact ⟨rfl, rfl⟩))
    (fun os started H enc _ => lifted_FnExactGridBeside os started H enc)

theorem holds_FnExactGridBeside : Rows.FnExactGridBesideSaid := over_FnExactGridBeside
#print axioms holds_FnExactGridBeside
end Go.Proofs.Ythhgflopdppmpaa
