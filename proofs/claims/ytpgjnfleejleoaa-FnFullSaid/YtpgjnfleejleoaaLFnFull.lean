/- The law FnFull returns true for every code. No condition on the input. -/
import Derived.Test.YtpgjnfleejleoaaZ
import Derived.Test.YtpgjnfleejleoaaYB
namespace Go.Proofs.Ytpgjnfleejleoaa
open Go.ChangeShapes Go.WideShapes Go.ChangeAt Go.RowKit

theorem full_grid {g : List ByteArray} (h : fullB g = true) : gridB g = true := by
  unfold fullB at h
  rw [Bool.and_eq_true] at h
  exact h.1
theorem put_dot {g : List ByteArray} (hg : gridB g = true) : putB g 0 ⟨#[46]⟩ = true ∧ putR g 0 ⟨#[46]⟩ = gPut g 0 46 := by
  have h1 := grid_len hg
  have h2 := grid_width hg
  have hc : 1 ≤ cellsN g := Nat.mul_pos h1.1 h2.1
  have hd : (⟨#[46]⟩ : ByteArray).toList = [46] := by rw [ByteArray.toList_eq]
  have hB : putB g 0 ⟨#[46]⟩ = true := by
    unfold putB
    rw [hg, inB_yes (by omega), hd]; rfl
  refine ⟨hB, ?_⟩
  unfold putR
  rw [hB, if_pos rfl, hd]; rfl

set_option maxHeartbeats 1600000 in
theorem walk_FnFull (w : World) (A : Option Addr) (c : Nat) (l : List UInt8) (hr : Rd w w.heap.size A (bv l)) (hm : l.length ≤ c ∧ l.length ≤ maxLen) :
    Calls Try.prog 4 #[.slice A l.length c] w fun e w' => e = .returned (.bool true) ∧ Below w.heap.size w w' := by
  by_cases hl : 1048576 < l.length
  · go_enter Try.func4, Try.ntmps4
    go_wp2
    go_ret
    exact ⟨rfl, Below.refl _ _⟩
  have hlb : decide ((1048576 : Int) < (l.length : Int)) = false := decide_eq_false (by omega)
  clear hl
  go_enter Try.func4, Try.ntmps4
  go_wp2_with fail
  refine (DrawGridFull_any l A c _ hr hm).mono ?_
  rintro e w1 ⟨g, A1, c1, rfl, hg, hlo, hhi, hsz, hb, hcp⟩
  have hgm : g.length ≤ maxLen := by unfold maxLen; omega
  have hgs : ∀ s ∈ g, s.size ≤ maxLen := fun s hs => by have := hsz s hs; unfold maxLen; omega
  clear hr hlb hcp
  obtain ⟨b, hbB⟩ : ∃ b, fullB g = b := ⟨_, rfl⟩
  have hi := iGridFull_any A1 c1 g w1 _ hg hgm hgs
  have hsS := fun (w : World) (h : Rd w w.heap.size A1 (sv g)) => sGridFull_any A1 c1 g w _ h hgm hgs
  rw [hbB] at hi
  simp only [hbB] at hsS
  have HI := Lib.hid hi
  have HS := Lib.hid (hsS _ hg)
  have HB := Lib.hid hbB
  clear hi hsS hbB
  go_wp2_with fail
  refine HI.out.mono ?_
  rintro e w2 ⟨rfl, rfl⟩
  clear HI
  go_wp2_with fail
  refine HS.out.mono ?_
  rintro e w3 ⟨rfl, hd⟩
  have hg3 := hg.later (hd.below _)
  have hbb3 := below_next hb (hd.below _)
  clear HS hg hb hd
  cases b
  · go_wp2
    go_ret
    exact ⟨rfl, hbb3⟩
  have g1 := full_grid HB.out
  have H1 := Lib.hid (iGridTurn_yes A1 c1 g w3 g1 hg3)
  have H2 := Lib.hid (fun w k => iGridOther_yes A1 c1 g w g1 k)
  have hp := fun (w : World) (k : Rd w w.heap.size A1 (sv g)) => iGridPut_any A1 c1 g 0 ⟨#[46]⟩ w k hgm hgs (by decide)
  obtain ⟨p1, p2⟩ := put_dot g1
  rw [p1, p2] at hp
  have H3 := Lib.hid hp
  have s1 := small_of (.inr (grid_turn g1))
  have s2 := small_of (.inr (grid_other g1))
  have s3 := small_of (.inr (grid_put g1 0 (b := 46) rfl).1)
  have f1 := fun A c w k => iGridFull_any A c (gTurn g) w w.heap.size k s1.1 s1.2
  have f2 := fun A c w k => iGridFull_any A c (gOther g) w w.heap.size k s2.1 s2.2
  have f3 := fun A c w k => iGridFull_any A c (gPut g 0 46) w w.heap.size k s3.1 s3.2
  simp only [full_turn g1, HB.out] at f1
  simp only [full_other g1, HB.out] at f2
  simp only [not_full_put g1] at f3
  have F1 := Lib.hid f1
  have F2 := Lib.hid f2
  have F3 := Lib.hid f3
  clear hp p1 p2 s1 s2 s3 f1 f2 f3 g1 hgs
  go_wp2_with fail
  refine H1.out.mono ?_
  rintro e w4 ⟨A4, c4, rfl, hown, hb4⟩
  have hg4 := hg3.later hb4
  have hx4 := Rd.of_own hown
  have hbb4 := below_next hbb3 hb4
  have H2 := Lib.hid (H2.out _ hg4)
  clear hown H1 hb4 hg3 hbb3
  go_wp2_with fail
  refine H2.out.mono ?_
  rintro e w5 ⟨A5, c5, rfl, hown, hb5⟩
  have hg5 := hg4.later hb5
  have hx5 := hx4.later hb5
  have hy5 := Rd.of_own hown
  have hbb5 := below_next hbb4 hb5
  have H3 := Lib.hid (H3.out _ hg5)
  clear hown H2 hb5 hg4 hx4 hbb4
  go_wp2_with fail
  refine H3.out.mono ?_
  rintro e w6 ⟨A6, c6, rfl, hown, hb6⟩
  have F1 := Lib.hid (F1.out A4 c4 _ (hx5.later hb6))
  have F2 := Lib.hid (F2.out A5 c5 _ (hy5.later hb6))
  have F3 := Lib.hid (F3.out A6 c6 _ (Rd.of_own hown))
  have hbb6 := below_next hbb5 hb6
  clear hown H3 hb6 hg5 hx5 hy5 hbb5
  go_wp2_with fail
  refine F1.out.mono ?_
  rintro e w' ⟨rfl, rfl⟩
  go_wp2_with fail
  refine F2.out.mono ?_
  rintro e w' ⟨rfl, rfl⟩
  go_wp2_with fail
  refine F3.out.mono ?_
  rintro e w' ⟨rfl, rfl⟩
  go_wp2
  go_ret
  exact ⟨rfl, hbb6⟩
set_option maxRecDepth 100000 in
theorem lifted_FnFull (os : Os) (started : os.Started) (H : Type) (enc : TypeId × Value → H) :
    ReturnsInHanded {} Try.checked os 4 .any (Rows.fnFullSpec.pre6 enc Try.prog Try.f4 Rows.fnFullRow.domain false) (Rows.fnFullSpec.post enc Try.prog Try.f4 false true false false) := by
  refine returnsInHanded_of_change (C := Try.checked) own_knob started (by kernel_rfl) Try.func4
    (ChangeSpec.witness6 (enc := enc) (C := Try.checked) false ⟨#[], #[.slice none 0 0], []⟩ 8 (by kernel_rfl) (by kernel_rfl) (by kernel_rfl) (by kernel_rfl)) ?_
  intro W base args ds gs before hval0 hW hcnd _
  have hval : ∀ (j : Nat) t v, Try.f4.params[j]? = some t → args[j]? = some v → Value.okWide Try.prog W .any base t v := hval0
  have hW' := hW
  obtain ⟨p, q, hA0, hV, rfl, hfz, hnd⟩ := hW
  have hA : DataW.TrodAll enc Try.prog W 0 (fun _ => true) true Try.f4.params.toList args.toList ds p := hA0
  rw [Try.params4] at hA hval
  obtain ⟨v0, vs0, d0, ds0, p0, q0, hargs, rfl, rfl, h0, r0⟩ := trodAll_cons hA
  obtain ⟨rfl, rfl, rfl⟩ := trodAll_nil r0
  obtain rfl : args = #[v0] := by cases args; simp_all
  obtain ⟨rfl, rfl⟩ := trodVars_none hV
  clear hA0 hval0
  simp only [List.append_nil] at hW'
  have hlt : ∀ x ∈ (p0 ++ []), x.block < W.heap.size := fun x hx => hW'.lt x (by simpa using hx)
  have hlt0 : ∀ x ∈ p0, x.block < W.heap.size := fun x hx => hlt x (by simp [hx])
  have hag0 : ∀ (W' : World), Below W.heap.size W W' → DataW.Trod enc Try.prog W' 0 (fun b => decide (b < W.heap.size)) true 22 v0 d0 p0 :=
    fun W' hn => Below.trod laid_out rd_B (of_decide_eq_true (by kernel_rfl)) h0 hn hlt0
  obtain ⟨A0, c0, l0, rfl, hr0, hm0⟩ := open_B (hval 0 22 v0 rfl rfl) h0 hlt0
  refine (walk_FnFull W A0 c0 l0 hr0 hm0).mono fun e W' ⟨he, hb⟩ => ?_
  subst he
  exact ⟨_, rfl, _, _, _, [], (p0 ++ []), [], hW', (trodAll_cons_mk (shut_bool Try.underlying4 _) trodAll_mk0), (trodAll_cons_mk (hag0 W' hb) trodAll_mk0), rfl, hb.frame _, fun h => by cases h⟩

theorem over_FnFull : Rows.fnFullRow.holds Try.pinned (OpenSpec.ofChange Rows.fnFullSpec) :=
  OpenClaim.holds_of_wide 4 Try.f4 rfl rfl rfl rfl rfl rfl rfl ⟨rfl, rfl, rfl, rfl, rfl⟩ rfl rfl rfl rfl rfl (by kernel_rfl) Try.func4 (by kernel_rfl)
    (of_decide_eq_true (by kernel_rfl)) (by unfold Func.isWrapper; first | (rw [if_pos (by decide +kernel)]; kernel_rfl) | (rw [if_neg (by decide +kernel)]; exact ⟨rfl, rfl⟩))
    (fun os started H enc _ => lifted_FnFull os started H enc)

theorem holds_FnFull : Rows.FnFullSaid := over_FnFull
#print axioms holds_FnFull
end Go.Proofs.Ytpgjnfleejleoaa
