/- The law FnRounds returns true for every code. No condition on the input. -/
import Derived.Test.YtmbjogjdcghacaaXF
import Derived.Test.YtmbjogjdcghacaaBT
import Derived.Test.YtmbjogjdcghacaaYD
import Derived.Test.YtmbjogjdcghacaaZ
namespace Go.Proofs.Ytmbjogjdcghacaa
open Go.ChangeShapes Go.WideShapes Go.ChangeAt Go.RowKit

set_option maxHeartbeats 1600000 in
theorem walk_FnRounds (w : World) (A : Option Addr) (c : Nat) (l : List UInt8) (hr : Rd w w.heap.size A (bv l)) (hm : l.length ≤ c ∧ l.length ≤ maxLen) :
    Calls Try.prog 13 #[.slice A l.length c] w fun e w' => e = .returned (.bool true) ∧ Below w.heap.size w w' := by
  by_cases hl : 1048576 < l.length
  · go_enter Try.func13, Try.ntmps13
    go_wp2
    go_ret
    exact ⟨rfl, Below.refl _ _⟩
  have hlb : decide ((1048576 : Int) < (l.length : Int)) = false := decide_eq_false (by omega)
  clear hl
  go_enter Try.func13, Try.ntmps13
  go_wp2_with fail
  refine (DrawRoundMany_any l A c _ hr hm).mono ?_
  rintro e w1 ⟨g, A1, c1, rfl, hg, hlo, hhi, hsz, hb, hcp⟩
  have hgm : g.length ≤ maxLen := by unfold maxLen; omega
  have hgs : ∀ s ∈ g, s.size ≤ maxLen := fun s hs => by have := hsz s hs; unfold maxLen; omega
  clear hr hlb hcp
  have HI := Lib.hid (iRoundMany_any A1 c1 g w1 hg hgm hgs)
  have HS := Lib.hid (fun (w : World) (h : Rd w w.heap.size A1 (sv g)) => sRoundMany_any A1 c1 g w h hgm hgs)
  obtain ⟨K, hK⟩ : ∃ K, roundsA g = K := ⟨_, rfl⟩
  have HK := Lib.hid hK
  obtain ⟨b, hbB⟩ : ∃ b, gridB g = b := ⟨_, rfl⟩
  have HB := Lib.hid hbB
  rw [hK, hbB] at HI
  simp only [hK, hbB] at HS
  clear hK hbB
  go_wp2_with fail
  refine HI.out.mono ?_
  rintro e w2 ⟨rfl, hb2⟩
  have hg2 := hg.later hb2
  have hbb2 := below_next hb hb2
  have HS2 := Lib.hid (HS.out _ hg2)
  clear HI HS hg hb hb2
  go_wp2_with fail
  refine HS2.out.mono ?_
  rintro e w3 ⟨rfl, hb3⟩
  have hg3 := hg2.later hb3
  have hbb3 := below_next hbb2 hb3
  clear HS2 hg2 hbb2 hb3
  have hkk : ((K : Int) == (K : Int)) = true := beq_self_eq_true _
  have hkn : ((K : Int) != (K : Int)) = false := by simp
  cases b
  · clear hkk
    go_wp2
    go_ret
    exact ⟨rfl, hbb3⟩
  have g1 := HB.out
  have g2 := grid_turn g1
  have g3 := grid_flip g1
  have k1 : roundsA (gTurn g) = K := by rw [← HK.out]; unfold roundsA; rw [if_pos g1, if_pos g2, leads_turn g1]
  have k2 : roundsA (gFlip g) = K := by rw [← HK.out]; unfold roundsA; rw [if_pos g1, if_pos g3, leads_flip g1]
  have h1 := iGridTurn_yes A1 c1 g w3 g1 hg3
  have h2 := fun w k => iGridFlip_yes A1 c1 g w g1 k
  have h3 := fun A c w k => iRoundMany_any A c (gTurn g) w k (small_of (.inr g2)).1 (small_of (.inr g2)).2
  have h4 := fun A c w k => iRoundMany_any A c (gFlip g) w k (small_of (.inr g3)).1 (small_of (.inr g3)).2
  have h5 := fun w k => iRoundLeast_any A1 c1 g w k hgm hgs
  simp only [k1, g2] at h3
  simp only [k2, g3] at h4
  have hu : (K = 0) ↔ leastB g = false := by
    rw [← HK.out]
    unfold roundsA leastB
    rw [if_pos g1, g1, List.length_eq_zero_iff, Fd.leads_none (grid_hm g1)]
    cases (fld g).leastO <;> simp
  obtain ⟨u, hu1⟩ : ∃ u, leastB g = u := ⟨_, rfl⟩
  obtain ⟨x, hx1⟩ : ∃ x, leastA g = x := ⟨_, rfl⟩
  simp only [hu1, hx1] at h5
  rw [hu1] at hu
  have hfin : ((K : Int) == 0) = !u := by
    cases u
    · have := hu.2 rfl; subst this; rfl
    · have : ¬ K = 0 := fun e => by have := hu.1 e; cases this
      rw [beq_eq_false_iff_ne.2 (by omega)]; rfl
  have H1 := Lib.hid h1
  have H2 := Lib.hid h2
  have H3 := Lib.hid h3
  have H4 := Lib.hid h4
  have H5 := Lib.hid h5
  clear h1 h2 h3 h4 h5 hu hu1 hx1 k1 k2 g1 g2 g3 hgs
  go_wp2_with fail
  refine H1.out.mono ?_
  rintro e w5 ⟨A5, c5, rfl, hown, hb5⟩
  have hg5 := hg3.later hb5
  have hx5 := Rd.of_own hown
  have H2 := Lib.hid (H2.out _ hg5)
  have hbb5 := below_next hbb3 hb5
  clear hown H1 hb5 hg3 hbb3
  go_wp2_with fail
  refine H2.out.mono ?_
  rintro e w6 ⟨A6, c6, rfl, hown, hb6⟩
  have hg6 := hg5.later hb6
  have hx6 := hx5.later hb6
  have hy6 := Rd.of_own hown
  have hbb6 := below_next hbb5 hb6
  have H3 := Lib.hid (H3.out _ c5 _ hx6)
  clear hown H2 hb6 hg5 hx5 hbb5
  go_wp2_with fail
  refine H3.out.mono ?_
  rintro e w7 ⟨rfl, hb7⟩
  have hg7 := hg6.later hb7
  have hy7 := hy6.later hb7
  have hbb7 := below_next hbb6 hb7
  have H4 := Lib.hid (H4.out _ c6 _ hy7)
  clear H3 hb7 hg6 hx6 hy6 hbb6
  go_wp2_with fail
  refine H4.out.mono ?_
  rintro e w8 ⟨rfl, hb8⟩
  have hg8 := hg7.later hb8
  have hbb8 := below_next hbb7 hb8
  have H5 := Lib.hid (H5.out _ hg8)
  clear H4 hb8 hg7 hy7 hbb7
  go_wp2_with fail
  refine H5.out.mono ?_
  rintro e w9 ⟨rfl, hb9⟩
  have hbb9 := below_next hbb8 hb9
  clear H5 hb9 hbb8 hg8
  cases u
  · go_wp2
    go_ret
    exact ⟨rfl, hbb9⟩
  · go_wp2
    go_ret
    exact ⟨rfl, hbb9⟩
set_option maxRecDepth 100000 in
theorem lifted_FnRounds (os : Os) (started : os.Started) (H : Type) (enc : TypeId × Value → H) :
    ReturnsInHanded {} Try.checked os 13 .any (Rows.fnRoundsSpec.pre6 enc Try.prog Try.f13 Rows.fnRoundsRow.domain false) (Rows.fnRoundsSpec.post enc Try.prog Try.f13 false true false false) := by
  refine returnsInHanded_of_change (C := Try.checked) own_knob started (by kernel_rfl) Try.func13
    (ChangeSpec.witness6 (enc := enc) (C := Try.checked) false ⟨#[], #[.slice none 0 0], []⟩ 8 (by kernel_rfl) (by kernel_rfl) (by kernel_rfl) (by kernel_rfl)) ?_
  intro W base args ds gs before hval0 hW hcnd _
  have hval : ∀ (j : Nat) t v, Try.f13.params[j]? = some t → args[j]? = some v → Value.okWide Try.prog W .any base t v := hval0
  have hW' := hW
  obtain ⟨p, q, hA0, hV, rfl, hfz, hnd⟩ := hW
  have hA : DataW.TrodAll enc Try.prog W 0 (fun _ => true) true Try.f13.params.toList args.toList ds p := hA0
  rw [Try.params13] at hA hval
  obtain ⟨v0, vs0, d0, ds0, p0, q0, hargs, rfl, rfl, h0, r0⟩ := trodAll_cons hA
  obtain ⟨rfl, rfl, rfl⟩ := trodAll_nil r0
  obtain rfl : args = #[v0] := by cases args; simp_all
  obtain ⟨rfl, rfl⟩ := trodVars_none hV
  clear hA0 hval0
  simp only [List.append_nil] at hW'
  have hlt : ∀ x ∈ (p0 ++ []), x.block < W.heap.size := fun x hx => hW'.lt x (by simpa using hx)
  have hlt0 : ∀ x ∈ p0, x.block < W.heap.size := fun x hx => hlt x (by simp [hx])
  have hag0 : ∀ (W' : World), Below W.heap.size W W' → DataW.Trod enc Try.prog W' 0 (fun b => decide (b < W.heap.size)) true 33 v0 d0 p0 :=
    fun W' hn => Below.trod laid_out rd_B (of_decide_eq_true (by kernel_rfl)) h0 hn hlt0
  obtain ⟨A0, c0, l0, rfl, hr0, hm0⟩ := open_B (hval 0 33 v0 rfl rfl) h0 hlt0
  refine (walk_FnRounds W A0 c0 l0 hr0 hm0).mono fun e W' ⟨he, hb⟩ => ?_
  subst he
  exact ⟨_, rfl, _, _, _, [], (p0 ++ []), [], hW', (trodAll_cons_mk (shut_bool Try.underlying4 _) trodAll_mk0), (trodAll_cons_mk (hag0 W' hb) trodAll_mk0), rfl, hb.frame _, fun h => by cases h⟩

theorem over_FnRounds : Rows.fnRoundsRow.holds Try.pinned (OpenSpec.ofChange Rows.fnRoundsSpec) :=
  OpenClaim.holds_of_wide 13 Try.f13 rfl rfl rfl rfl rfl rfl rfl ⟨rfl, rfl, rfl, rfl, rfl⟩ rfl rfl rfl rfl rfl (by kernel_rfl) Try.func13 (by kernel_rfl)
    (of_decide_eq_true (by kernel_rfl)) (by unfold Func.isWrapper; first | (rw [if_pos (by decide +kernel)]; kernel_rfl) | (rw [if_neg (by decide +kernel)]; exact ⟨rfl, rfl⟩))
    (fun os started H enc _ => lifted_FnRounds os started H enc)

theorem holds_FnRounds : Rows.FnRoundsSaid := over_FnRounds
#print axioms holds_FnRounds
end Go.Proofs.Ytmbjogjdcghacaa
