/- The law FnOther returns true for every code. No condition on the input. -/
import Derived.Test.YtjnelfgjglpchaaZ
import Derived.Test.YtjnelfgjglpchaaN
namespace Go.Proofs.Ytjnelfgjglpchaa
open Go.ChangeShapes Go.WideShapes Go.ChangeAt Go.RowKit

set_option maxHeartbeats 1600000 in
theorem walk_FnOther (w : World) (A : Option Addr) (c : Nat) (l : List UInt8) (hr : Rd w w.heap.size A (bv l)) (hm : l.length ≤ c ∧ l.length ≤ maxLen) :
    Calls Try.prog 12 #[.slice A l.length c] w fun e w' => e = .returned (.bool true) ∧ Below w.heap.size w w' := by
  by_cases hl : 1048576 < l.length
  · go_enter Try.func12, Try.ntmps12
    go_wp2
    go_ret
    exact ⟨rfl, Below.refl _ _⟩
  have hlb : decide ((1048576 : Int) < (l.length : Int)) = false := decide_eq_false (by omega)
  clear hl
  go_enter Try.func12, Try.ntmps12
  go_wp2_with fail
  refine (DrawGridOther_any l A c _ hr hm).mono ?_
  rintro e w1 ⟨g, A1, c1, rfl, hg, hlo, hhi, hsz, hb, hcp⟩
  have hgm : g.length ≤ maxLen := by unfold maxLen; omega
  have hgs : ∀ s ∈ g, s.size ≤ maxLen := fun s hs => by have := hsz s hs; unfold maxLen; omega
  clear hr hlb hcp
  have hi := iGridOther_any A1 c1 g w1 hg hgm hgs
  have hsS := fun (w : World) (h : Rd w w.heap.size A1 (sv g)) => sGridOther_any A1 c1 g w h hgm hgs
  have hsm : (orNone (gridB g) (gOther g)) = [] ∨ gridB (orNone (gridB g) (gOther g)) = true := by
    cases hgB : gridB g
    · exact .inl rfl
    · exact .inr (grid_other hgB)
  obtain ⟨R, hR⟩ : ∃ R, orNone (gridB g) (gOther g) = R := ⟨_, rfl⟩
  rw [hR] at hi hsm
  simp only [hR] at hsS
  obtain ⟨hRm, hRs⟩ := small_of hsm
  obtain ⟨b, hbB⟩ : ∃ b, gridB g = b := ⟨_, rfl⟩
  rw [hbB] at hi
  simp only [hbB] at hsS
  have HI := Lib.hid hi
  have HS := Lib.hid hsS
  have HR := Lib.hid hR
  have HB := Lib.hid hbB
  clear hi hsS hR hbB hsm
  go_wp2_with fail
  refine HI.out.mono ?_
  rintro e w2 ⟨A2, c2, rfl, hown, hb2⟩
  have hg2 := hg.later hb2
  have hx2 := Rd.of_own hown
  have hbb2 := below_next hb hb2
  clear hown HI hg hb hb2
  go_wp2_with fail
  refine (HS.out _ hg2).mono ?_
  rintro e w3 ⟨A3, c3, rfl, hown, hb3⟩
  have hg3 := hg2.later hb3
  have hx3 := hx2.later hb3
  have hy3 := Rd.of_own hown
  have hbb3 := below_next hbb2 hb3
  clear hown HS hg2 hx2 hbb2 hb3
  have hT := sameTexts_same A2 A3 c2 c3 R w3 _ _ hx3 hy3 hRm
  have HT := Lib.hid hT
  clear hT
  go_wp2_with fail
  refine HT.out.mono ?_
  rintro e w4 ⟨rfl, hd4⟩
  have hb4 := hd4.below w3.heap.size
  have hg4 := hg3.later hb4
  have hx4 := hx3.later hb4
  have hy4 := hy3.later hb4
  have hbb4 := below_next hbb3 hb4
  clear hb4 HT hg3 hx3 hy3 hbb3 hd4
  cases b
  · have HT := Lib.hid (sameTexts_same A2 A3 c2 c3 R w4 _ _ hx4 hy4 hRm)
    go_wp2_with fail
    refine HT.out.mono ?_
    rintro e w5 ⟨rfl, hd5⟩
    have hbb5 := below_next hbb4 (hd5.below _)
    clear hd5
    go_wp2
    go_ret
    exact ⟨rfl, hbb5⟩
  have hRg : R = gOther g := by rw [← HR.out, HB.out]; rfl
  have h1 := iGridOther_yes A2 c2 R w4 (by rw [hRg]; exact grid_other HB.out) hx4
  have hRR : gOther R = g := by rw [hRg]; exact other_other HB.out
  rw [hRR] at h1
  have H1 := Lib.hid h1
  have HRG := Lib.hid hRg
  clear h1 hRR hRg
  go_wp2_with fail
  refine H1.out.mono ?_
  rintro e w5 ⟨A5, c5, rfl, hown, hb5⟩
  have hg5 := hg4.later hb5
  have hx5 := hx4.later hb5
  have hz5 := Rd.of_own hown
  have hbb5 := below_next hbb4 hb5
  clear hown H1 hb5 hg4 hx4 hy4 hbb4
  have H2 := Lib.hid (iGridTurn_yes A1 c1 g w5 HB.out hg5)
  go_wp2_with fail
  refine H2.out.mono ?_
  rintro e w6 ⟨A6, c6, rfl, hown, hb6⟩
  have hg6 := hg5.later hb6
  have hx6 := hx5.later hb6
  have hz6 := hz5.later hb6
  have ht6 := Rd.of_own hown
  have hbb6 := below_next hbb5 hb6
  clear hown H2 hb6 hg5 hx5 hz5 hbb5
  have h3 := iGridOther_yes A6 c6 (gTurn g) w6 (grid_turn HB.out) ht6
  rw [turn_other HB.out, ← HRG.out] at h3
  have H3 := Lib.hid h3
  clear h3
  go_wp2_with fail
  refine H3.out.mono ?_
  rintro e w7 ⟨A7, c7, rfl, hown, hb7⟩
  have hg7 := hg6.later hb7
  have hx7 := hx6.later hb7
  have hz7 := hz6.later hb7
  have hu7 := Rd.of_own hown
  have hbb7 := below_next hbb6 hb7
  clear hown H3 hb7 hg6 hx6 hz6 ht6 hbb6
  have H4 := Lib.hid (iGridTurn_yes A2 c2 R w7 (by rw [HRG.out]; exact grid_other HB.out) hx7)
  go_wp2_with fail
  refine H4.out.mono ?_
  rintro e w8 ⟨A8, c8, rfl, hown, hb8⟩
  have hg8 := hg7.later hb8
  have hx8 := hx7.later hb8
  have hz8 := hz7.later hb8
  have hv8 := Rd.of_own hown
  have hu8 := hu7.later hb8
  have hbb8 := below_next hbb7 hb8
  clear hown H4 hb8 hg7 hx7 hz7 hu7 hbb7
  have HT := Lib.hid (sameTexts_same A5 A1 c5 c1 g w8 _ _ hz8 hg8 hgm)
  go_wp2_with fail
  refine HT.out.mono ?_
  rintro e w9 ⟨rfl, hd9⟩
  have hb9 := hd9.below w8.heap.size
  have hx9 := hx8.later hb9
  have hv9 := hv8.later hb9
  have hu9 := hu8.later hb9
  have hbb9 := below_next hbb8 hb9
  clear hb9 HT hg8 hx8 hz8 hv8 hu8 hbb8 hd9
  have HT := Lib.hid (sameTexts_same A7 A8 c7 c8 (gTurn R) w9 _ _ hu9 hv9 (small_of (.inr (grid_turn (by rw [HRG.out]; exact grid_other HB.out)))).1)
  go_wp2_with fail
  refine HT.out.mono ?_
  rintro e w10 ⟨rfl, hd⟩
  have hbb10 := below_next hbb9 (hd.below _)
  clear hd
  go_wp2
  go_ret
  exact ⟨rfl, hbb10⟩
set_option maxRecDepth 100000 in
theorem lifted_FnOther (os : Os) (started : os.Started) (H : Type) (enc : TypeId × Value → H) :
    ReturnsInHanded {} Try.checked os 12 .any (Rows.fnOtherSpec.pre6 enc Try.prog Try.f12 Rows.fnOtherRow.domain false) (Rows.fnOtherSpec.post enc Try.prog Try.f12 false true false false) := by
  refine returnsInHanded_of_change (C := Try.checked) own_knob started (by kernel_rfl) Try.func12
    (ChangeSpec.witness6 (enc := enc) (C := Try.checked) false ⟨#[], #[.slice none 0 0], []⟩ 8 (by kernel_rfl) (by kernel_rfl) (by kernel_rfl) (by kernel_rfl)) ?_
  intro W base args ds gs before hval0 hW hcnd _
  have hval : ∀ (j : Nat) t v, Try.f12.params[j]? = some t → args[j]? = some v → Value.okWide Try.prog W .any base t v := hval0
  have hW' := hW
  obtain ⟨p, q, hA0, hV, rfl, hfz, hnd⟩ := hW
  have hA : DataW.TrodAll enc Try.prog W 0 (fun _ => true) true Try.f12.params.toList args.toList ds p := hA0
  rw [Try.params12] at hA hval
  obtain ⟨v0, vs0, d0, ds0, p0, q0, hargs, rfl, rfl, h0, r0⟩ := trodAll_cons hA
  obtain ⟨rfl, rfl, rfl⟩ := trodAll_nil r0
  obtain rfl : args = #[v0] := by cases args; simp_all
  obtain ⟨rfl, rfl⟩ := trodVars_none hV
  clear hA0 hval0
  simp only [List.append_nil] at hW'
  have hlt : ∀ x ∈ (p0 ++ []), x.block < W.heap.size := fun x hx => hW'.lt x (by simpa using hx)
  have hlt0 : ∀ x ∈ p0, x.block < W.heap.size := fun x hx => hlt x (by simp [hx])
  have hag0 : ∀ (W' : World), Below W.heap.size W W' → DataW.Trod enc Try.prog W' 0 (fun b => decide (b < W.heap.size)) true 29 v0 d0 p0 :=
    fun W' hn => Below.trod laid_out rd_B (of_decide_eq_true (by kernel_rfl)) h0 hn hlt0
  obtain ⟨A0, c0, l0, rfl, hr0, hm0⟩ := open_B (hval 0 29 v0 rfl rfl) h0 hlt0
  refine (walk_FnOther W A0 c0 l0 hr0 hm0).mono fun e W' ⟨he, hb⟩ => ?_
  subst he
  exact ⟨_, rfl, _, _, _, [], (p0 ++ []), [], hW', (trodAll_cons_mk (shut_bool Try.underlying4 _) trodAll_mk0), (trodAll_cons_mk (hag0 W' hb) trodAll_mk0), rfl, hb.frame _, fun h => by cases h⟩

theorem over_FnOther : Rows.fnOtherRow.holds Try.pinned (OpenSpec.ofChange Rows.fnOtherSpec) :=
  OpenClaim.holds_of_wide 12 Try.f12 rfl rfl rfl rfl rfl rfl rfl ⟨rfl, rfl, rfl, rfl, rfl⟩ rfl rfl rfl rfl rfl (by kernel_rfl) Try.func12 (by kernel_rfl)
    (of_decide_eq_true (by kernel_rfl)) (by unfold Func.isWrapper; first | (rw [if_pos (by decide +kernel)]; kernel_rfl) | (rw [if_neg (by decide +kernel)]; exact ⟨rfl, rfl⟩))
    (fun os started H enc _ => lifted_FnOther os started H enc)

theorem holds_FnOther : Rows.FnOtherSaid := over_FnOther
#print axioms holds_FnOther
end Go.Proofs.Ytjnelfgjglpchaa
