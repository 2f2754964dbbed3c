/- The law FnOf returns true for every code. No condition on the input. -/
import Derived.Test.YtjnelfgjglpchaaZ
import Derived.Test.YtjnelfgjglpchaaYB
import Derived.Test.YtjnelfgjglpchaaXC
namespace Go.Proofs.Ytjnelfgjglpchaa
open Go.ChangeShapes Go.WideShapes Go.ChangeAt Go.RowKit

theorem gridOf_parts {n m x : Int} (h : gridOfB n m x = true) : ∃ a b k : Nat, n = a ∧ m = b ∧ x = k ∧ (1 ≤ a ∧ a ≤ 5) ∧ (1 ≤ b ∧ b ≤ 5) ∧ k < pw3 (a * b) ∧ gridOfR n m x = gOf a b k := by
  have h' := h
  unfold gridOfB at h'
  simp only [Bool.and_eq_true, inB_iff] at h'
  obtain ⟨⟨⟨h1, h2⟩, h3, h4⟩, h5, h6⟩ := h'
  obtain ⟨a, rfl⟩ := Int.eq_ofNat_of_zero_le (show 0 ≤ n by omega)
  obtain ⟨b, rfl⟩ := Int.eq_ofNat_of_zero_le (show 0 ≤ m by omega)
  obtain ⟨k, rfl⟩ := Int.eq_ofNat_of_zero_le h5
  simp only [Int.toNat_natCast] at h6
  refine ⟨a, b, k, rfl, rfl, rfl, by omega, by omega, by omega, ?_⟩
  unfold gridOfR
  rw [h, if_pos rfl]
  simp only [Int.toNat_natCast]
theorem gridOf_small (n m x : Int) : gridOfR n m x = [] ∨ gridB (gridOfR n m x) = true := by
  cases h : gridOfB n m x
  · left; unfold gridOfR; rw [h]; rfl
  · obtain ⟨a, b, k, _, _, _, h1, h2, _, h3⟩ := gridOf_parts h
    right; rw [h3]; exact (grid_gOf h1 h2).1

set_option maxHeartbeats 1600000 in
theorem walk_FnOf (w : World) (A : Option Addr) (c : Nat) (l : List UInt8) (hr : Rd w w.heap.size A (bv l)) (hm : l.length ≤ c ∧ l.length ≤ maxLen) :
    Calls Try.prog 7 #[.slice A l.length c] w fun e w' => e = .returned (.bool true) ∧ Below w.heap.size w w' := by
  by_cases hl : 1048576 < l.length
  · go_enter Try.func7, Try.ntmps7
    go_wp2
    go_ret
    exact ⟨rfl, Below.refl _ _⟩
  have hlb : decide ((1048576 : Int) < (l.length : Int)) = false := decide_eq_false (by omega)
  clear hl
  go_enter Try.func7, Try.ntmps7
  go_wp2_with fail
  refine (DrawGridOf_any l A c _ hr hm).mono ?_
  rintro e w1 ⟨n, m, x, rfl, hn, hmm, hx, hb⟩
  clear hr hlb
  have hi := iGridOf_any n m x w1 (by omega) (by omega)
  have hsS := fun (w : World) => sGridOf_any n m x w (by omega) (by omega)
  have hRsm := gridOf_small n m x
  obtain ⟨R, hR⟩ : ∃ R, gridOfR n m x = R := ⟨_, rfl⟩
  rw [hR] at hi hRsm
  simp only [hR] at hsS
  obtain ⟨hRm, hRs⟩ := small_of hRsm
  obtain ⟨b, hbB⟩ : ∃ b, gridOfB n m x = b := ⟨_, rfl⟩
  rw [hbB] at hi
  simp only [hbB] at hsS
  have HI := Lib.hid hi
  have HS := Lib.hid hsS
  have HR := Lib.hid hR
  have HB := Lib.hid hbB
  clear hi hsS hR hbB hRsm
  go_wp2_with fail
  refine HI.out.mono ?_
  rintro e w2 ⟨A2, c2, rfl, hown, hb2⟩
  have hx2 := Rd.of_own hown
  have hbb2 := below_next hb hb2
  clear hown HI hb hb2
  go_wp2_with fail
  refine (HS.out _).mono ?_
  rintro e w3 ⟨A3, c3, rfl, hown, hb3⟩
  have hx3 := hx2.later hb3
  have hy3 := Rd.of_own hown
  have hbb3 := below_next hbb2 hb3
  clear hown HS hx2 hbb2 hb3
  have HT := Lib.hid (sameTexts_same A2 A3 c2 c3 R w3 _ _ hx3 hy3 hRm)
  go_wp2_with fail
  refine HT.out.mono ?_
  rintro e w4 ⟨rfl, hd4⟩
  have hb4 := hd4.below w3.heap.size
  have hx4 := hx3.later hb4
  have hy4 := hy3.later hb4
  have hbb4 := below_next hbb3 hb4
  clear hb4 HT hx3 hy3 hbb3 hd4
  cases b
  · clear hRs
    have HT := Lib.hid (sameTexts_same A2 A3 c2 c3 R w4 _ _ hx4 hy4 hRm)
    go_wp2_with fail
    refine HT.out.mono ?_
    rintro e w5 ⟨rfl, hd5⟩
    have hbb5 := below_next hbb4 (hd5.below _)
    clear hd5
    go_wp2
    go_ret
    exact ⟨rfl, hbb5⟩
  obtain ⟨a, bb, k, rfl, rfl, rfl, ha, hbz, hk, hRg⟩ := gridOf_parts HB.out
  rw [HR.out] at hRg
  obtain ⟨hgB, hgl, hgw⟩ := grid_gOf (N := k) ha hbz
  rw [← hRg] at hgB hgl hgw
  have hmul := mul_bd (n := a) (m := bb) (a := 5) (b := 5) ha.2 hbz.2
  obtain ⟨hmul1, hmul2⟩ := hmul
  have hcn : (a : Int) * (bb : Int) = ((cellsN R : Nat) : Int) := by unfold cellsN; rw [hgl, hgw, Int.natCast_mul]
  have hlen : ((R.length : Int) == (a : Int)) = true := by rw [hgl]; exact beq_self_eq_true _
  by_cases h20 : cellsN R ≤ 20
  · have hnB : numB R = true := by unfold numB; rw [hgB, decide_eq_true h20]; rfl
    have hnR : numR R = k := by unfold numR; rw [hnB, if_pos rfl, hRg]; exact number_of ha hbz hk
    have hq := iGridNumber_any A2 c2 R w4 _ hx4 hRm hRs
    rw [hnB, hnR] at hq
    have HQ := Lib.hid hq
    have hgt : decide ((20 : Int) < (a : Int) * (bb : Int)) = false := decide_eq_false (by omega)
    obtain ⟨s0, hs0⟩ : ∃ s0, R[0]'(by omega) = s0 := ⟨_, rfl⟩
    have hz0 : s0.size = bb := by rw [← hs0, grid_row hgB 0 (by omega), hgw]
    have hzb : ((s0.size : Int) == (bb : Int)) = true := by rw [hz0]; exact beq_self_eq_true _
    have hkk : ((k : Int) == (k : Int)) = true := beq_self_eq_true _
    obtain ⟨b0, off0, rfl, hb0, hc0⟩ := hx4.at_ (sv_get R 0 (by omega))
    rw [hs0, Nat.add_zero] at hc0
    have hRpos : 0 < R.length := by omega
    clear hq hnB hnR hz0 hs0 hRg hgB hgl hgw hcn hRs
    go_wp2_with fail
    refine HQ.out.mono ?_
    rintro e w5 ⟨rfl, rfl⟩
    go_wp2
    go_ret
    exact ⟨rfl, hbb4⟩
  · have hgt : decide ((20 : Int) < (a : Int) * (bb : Int)) = true := decide_eq_true (by omega)
    clear hRg hgB hgl hgw hcn hRs
    go_wp2
    go_ret
    exact ⟨rfl, hbb4⟩
set_option maxRecDepth 100000 in
theorem lifted_FnOf (os : Os) (started : os.Started) (H : Type) (enc : TypeId × Value → H) :
    ReturnsInHanded {} Try.checked os 7 .any (Rows.fnOfSpec.pre6 enc Try.prog Try.f7 Rows.fnOfRow.domain false) (Rows.fnOfSpec.post enc Try.prog Try.f7 false true false false) := by
  refine returnsInHanded_of_change (C := Try.checked) own_knob started (by kernel_rfl) Try.func7
    (ChangeSpec.witness6 (enc := enc) (C := Try.checked) false ⟨#[], #[.slice none 0 0], []⟩ 8 (by kernel_rfl) (by kernel_rfl) (by kernel_rfl) (by kernel_rfl)) ?_
  intro W base args ds gs before hval0 hW hcnd _
  have hval : ∀ (j : Nat) t v, Try.f7.params[j]? = some t → args[j]? = some v → Value.okWide Try.prog W .any base t v := hval0
  have hW' := hW
  obtain ⟨p, q, hA0, hV, rfl, hfz, hnd⟩ := hW
  have hA : DataW.TrodAll enc Try.prog W 0 (fun _ => true) true Try.f7.params.toList args.toList ds p := hA0
  rw [Try.params7] at hA hval
  obtain ⟨v0, vs0, d0, ds0, p0, q0, hargs, rfl, rfl, h0, r0⟩ := trodAll_cons hA
  obtain ⟨rfl, rfl, rfl⟩ := trodAll_nil r0
  obtain rfl : args = #[v0] := by cases args; simp_all
  obtain ⟨rfl, rfl⟩ := trodVars_none hV
  clear hA0 hval0
  simp only [List.append_nil] at hW'
  have hlt : ∀ x ∈ (p0 ++ []), x.block < W.heap.size := fun x hx => hW'.lt x (by simpa using hx)
  have hlt0 : ∀ x ∈ p0, x.block < W.heap.size := fun x hx => hlt x (by simp [hx])
  have hag0 : ∀ (W' : World), Below W.heap.size W W' → DataW.Trod enc Try.prog W' 0 (fun b => decide (b < W.heap.size)) true 29 v0 d0 p0 :=
    fun W' hn => Below.trod laid_out rd_B (of_decide_eq_true (by kernel_rfl)) h0 hn hlt0
  obtain ⟨A0, c0, l0, rfl, hr0, hm0⟩ := open_B (hval 0 29 v0 rfl rfl) h0 hlt0
  refine (walk_FnOf W A0 c0 l0 hr0 hm0).mono fun e W' ⟨he, hb⟩ => ?_
  subst he
  exact ⟨_, rfl, _, _, _, [], (p0 ++ []), [], hW', (trodAll_cons_mk (shut_bool Try.underlying4 _) trodAll_mk0), (trodAll_cons_mk (hag0 W' hb) trodAll_mk0), rfl, hb.frame _, fun h => by cases h⟩

theorem over_FnOf : Rows.fnOfRow.holds Try.pinned (OpenSpec.ofChange Rows.fnOfSpec) :=
  OpenClaim.holds_of_wide 7 Try.f7 rfl rfl rfl rfl rfl rfl rfl ⟨rfl, rfl, rfl, rfl, rfl⟩ rfl rfl rfl rfl rfl (by kernel_rfl) Try.func7 (by kernel_rfl)
    (of_decide_eq_true (by kernel_rfl)) (by unfold Func.isWrapper; first | (rw [if_pos (by decide +kernel)]; kernel_rfl) | (rw [if_neg (by decide +kernel)]; exact ⟨rfl, rfl⟩))
    (fun os started H enc _ => lifted_FnOf os started H enc)

theorem holds_FnOf : Rows.FnOfSaid := over_FnOf
#print axioms holds_FnOf
end Go.Proofs.Ytjnelfgjglpchaa
