/- The law FnTurn returns true for every code. No condition on the input. -/
import Derived.Test.YtpgjnfleejleoaaZ
import Derived.Test.YtpgjnfleejleoaaN
import Derived.Test.YtpgjnfleejleoaaYB
namespace Go.Proofs.Ytpgjnfleejleoaa
open Go.ChangeShapes Go.WideShapes Go.ChangeAt Go.RowKit

theorem count_yes {g : List ByteArray} (hg : gridB g = true) : countR g = mirrors g := by unfold countR; rw [hg]; rfl

set_option maxHeartbeats 1600000 in
theorem walk_FnTurn (w : World) (A : Option Addr) (c : Nat) (l : List UInt8) (hr : Rd w w.heap.size A (bv l)) (hm : l.length ≤ c ∧ l.length ≤ maxLen) :
    Calls Try.prog 3 #[.slice A l.length c] w fun e w' => e = .returned (.bool true) ∧ Below w.heap.size w w' := by
  by_cases hl : 1048576 < l.length
  · go_enter Try.func3, Try.ntmps3
    go_wp2
    go_ret
    exact ⟨rfl, Below.refl _ _⟩
  have hlb : decide ((1048576 : Int) < (l.length : Int)) = false := decide_eq_false (by omega)
  clear hl
  go_enter Try.func3, Try.ntmps3
  go_wp2_with fail
  refine (DrawGridTurn_any l A c _ hr hm).mono ?_
  rintro e w1 ⟨g, A1, c1, rfl, hg, hlo, hhi, hsz, hb, hcp⟩
  have hgm : g.length ≤ maxLen := by unfold maxLen; omega
  have hgs : ∀ s ∈ g, s.size ≤ maxLen := fun s hs => by have := hsz s hs; unfold maxLen; omega
  clear hr hlb hcp
  have hi := iGridTurn_any A1 c1 g w1 hg hgm hgs
  have hsS := fun (w : World) (h : Rd w w.heap.size A1 (sv g)) => sGridTurn_any A1 c1 g w h hgm hgs
  have hsm : (orNone (gridB g) (gTurn g)) = [] ∨ gridB (orNone (gridB g) (gTurn g)) = true := by
    cases hgB : gridB g
    · exact .inl rfl
    · exact .inr (grid_turn hgB)
  obtain ⟨R, hR⟩ : ∃ R, orNone (gridB g) (gTurn g) = R := ⟨_, rfl⟩
  rw [hR] at hi hsm
  simp only [hR] at hsS
  obtain ⟨hRm, hRs⟩ := small_of hsm
  obtain ⟨b, hbB⟩ : ∃ b, gridB g = b := ⟨_, rfl⟩
  rw [hbB] at hi
  simp only [hbB] at hsS
  have HI := Lib.hid hi
  have HS := Lib.hid hsS
  have HR := Lib.hid hR
  have HB := Lib.hid hbB
  clear hi hsS hR hbB hsm
  go_wp2_with fail
  refine HI.out.mono ?_
  rintro e w2 ⟨A2, c2, rfl, hown, hb2⟩
  have hg2 := hg.later hb2
  have hx2 := Rd.of_own hown
  have hbb2 := below_next hb hb2
  clear hown HI hg hb hb2
  go_wp2_with fail
  refine (HS.out _ hg2).mono ?_
  rintro e w3 ⟨A3, c3, rfl, hown, hb3⟩
  have hg3 := hg2.later hb3
  have hx3 := hx2.later hb3
  have hy3 := Rd.of_own hown
  have hbb3 := below_next hbb2 hb3
  clear hown HS hg2 hx2 hbb2 hb3
  have HT := Lib.hid (sameTexts_same A2 A3 c2 c3 R w3 _ _ hx3 hy3 hRm)
  go_wp2_with fail
  refine HT.out.mono ?_
  rintro e w4 ⟨rfl, hd4⟩
  have hb4 := hd4.below w3.heap.size
  have hg4 := hg3.later hb4
  have hx4 := hx3.later hb4
  have hy4 := hy3.later hb4
  have hbb4 := below_next hbb3 hb4
  clear hb4 HT hg3 hx3 hy3 hbb3 hd4
  cases b
  · clear hRs
    have HT := Lib.hid (sameTexts_same A2 A3 c2 c3 R w4 _ _ hx4 hy4 hRm)
    go_wp2_with fail
    refine HT.out.mono ?_
    rintro e w5 ⟨rfl, hd5⟩
    have hbb5 := below_next hbb4 (hd5.below _)
    clear hd5
    go_wp2
    go_ret
    exact ⟨rfl, hbb5⟩
  have hRg : R = gTurn g := by rw [← HR.out, HB.out]; rfl
  have g1 := HB.out
  have g2 : gridB R = true := by rw [hRg]; exact grid_turn g1
  have g3 := grid_turn g2
  have g4 := grid_turn g3
  have e4 : gTurn (gTurn (gTurn R)) = g := by rw [hRg]; exact turn4 g1
  have hcR : countR R = countR g := by rw [count_yes g1, count_yes g2, hRg, mirrors_turn g1]
  have H1 := Lib.hid (iGridTurn_yes A2 c2 R w4 g2 hx4)
  have H2 := Lib.hid (fun A c w k => iGridTurn_yes A c (gTurn R) w g3 k)
  have h3 := fun A c w k => iGridTurn_yes A c (gTurn (gTurn R)) w g4 k
  simp only [e4] at h3
  have H3 := Lib.hid h3
  have hc1 := fun (w : World) (k : Rd w w.heap.size A1 (sv g)) => iGridCount_any A1 c1 g w _ k hgm hgs
  have hc2 := fun (w : World) (k : Rd w w.heap.size A2 (sv R)) => iGridCount_any A2 c2 R w _ k hRm hRs
  rw [hcR] at hc2
  obtain ⟨N, hN⟩ : ∃ N, countR g = N := ⟨_, rfl⟩
  simp only [hN, g1] at hc1
  simp only [hN, g2] at hc2
  have HC1 := Lib.hid hc1
  have HC2 := Lib.hid hc2
  have hlen := grid_len g1
  obtain ⟨s0, hs0⟩ : ∃ s0, g[0] = s0 := ⟨_, rfl⟩
  have hz0 : s0.size = width g := by rw [← hs0]; exact grid_row g1 0 (by omega)
  have hRl : ((R.length : Int) == (s0.size : Int)) = true := by rw [hRg, turn_len, hz0]; exact beq_self_eq_true _
  have hNN : ((N : Int) == (N : Int)) = true := beq_self_eq_true _
  have HS0 := Lib.hid (fun (w : World) (B : Nat) (k : Rd w B A1 (sv g)) => (show ∃ b off, A1 = some ⟨b, off, none⟩ ∧ b < B ∧ w.cell? ⟨b, off, none⟩ = some (.string s0) from by
    obtain ⟨b, off, h1, h2, h3⟩ := k.at_ (sv_get g 0 (by omega))
    rw [hs0] at h3
    exact ⟨b, off, h1, h2, h3⟩))
  have hpos : 0 < g.length := by omega
  clear h3 hc1 hc2 hN hcR e4 g1 g2 g3 g4 hRg hgs hRs hz0 hs0
  go_wp2_with fail
  refine H1.out.mono ?_
  rintro e w5 ⟨A5, c5, rfl, hown, hb5⟩
  have hg5 := hg4.later hb5
  have hx5 := hx4.later hb5
  have H2 := Lib.hid (H2.out _ c5 _ (Rd.of_own hown))
  have hbb5 := below_next hbb4 hb5
  clear hown H1 hb5 hg4 hx4 hy4 hbb4
  go_wp2_with fail
  refine H2.out.mono ?_
  rintro e w6 ⟨A6, c6, rfl, hown, hb6⟩
  have hg6 := hg5.later hb6
  have hx6 := hx5.later hb6
  have H3 := Lib.hid (H3.out _ c6 _ (Rd.of_own hown))
  have hbb6 := below_next hbb5 hb6
  clear hown H2 hb6 hg5 hx5 hbb5
  go_wp2_with fail
  refine H3.out.mono ?_
  rintro e w7 ⟨A7, c7, rfl, hown, hb7⟩
  have hg7 := hg6.later hb7
  have hx7 := hx6.later hb7
  have hz7 := Rd.of_own hown
  have hbb7 := below_next hbb6 hb7
  have HC1 := Lib.hid (HC1.out _ hg7)
  have HC2 := Lib.hid (HC2.out _ hx7)
  clear hown H3 hb7 hg6 hx6 hbb6
  go_wp2_with fail
  refine HC1.out.mono ?_
  rintro e w' ⟨rfl, rfl⟩
  clear HC1
  go_wp2_with fail
  refine HC2.out.mono ?_
  rintro e w' ⟨rfl, rfl⟩
  clear HC2
  have HT := Lib.hid (sameTexts_same A7 A1 c7 c1 g w7 _ _ hz7 hg7 hgm)
  go_wp2_with fail
  refine HT.out.mono ?_
  rintro e w8 ⟨rfl, hd8⟩
  have hbb8 := below_next hbb7 (hd8.below _)
  obtain ⟨b0, off0, rfl, hb0, hc0⟩ := HS0.out _ _ (hg7.later (hd8.below _))
  clear hd8 HT hg7 hx7 hz7 HS0
  go_wp2
  go_ret
  exact ⟨rfl, hbb8⟩
set_option maxRecDepth 100000 in
theorem lifted_FnTurn (os : Os) (started : os.Started) (H : Type) (enc : TypeId × Value → H) :
    ReturnsInHanded {} Try.checked os 3 .any (Rows.fnTurnSpec.pre6 enc Try.prog Try.f3 Rows.fnTurnRow.domain false) (Rows.fnTurnSpec.post enc Try.prog Try.f3 false true false false) := by
  refine returnsInHanded_of_change (C := Try.checked) own_knob started (by kernel_rfl) Try.func3
    (ChangeSpec.witness6 (enc := enc) (C := Try.checked) false ⟨#[], #[.slice none 0 0], []⟩ 8 (by kernel_rfl) (by kernel_rfl) (by kernel_rfl) (by kernel_rfl)) ?_
  intro W base args ds gs before hval0 hW hcnd _
  have hval : ∀ (j : Nat) t v, Try.f3.params[j]? = some t → args[j]? = some v → Value.okWide Try.prog W .any base t v := hval0
  have hW' := hW
  obtain ⟨p, q, hA0, hV, rfl, hfz, hnd⟩ := hW
  have hA : DataW.TrodAll enc Try.prog W 0 (fun _ => true) true Try.f3.params.toList args.toList ds p := hA0
  rw [Try.params3] at hA hval
  obtain ⟨v0, vs0, d0, ds0, p0, q0, hargs, rfl, rfl, h0, r0⟩ := trodAll_cons hA
  obtain ⟨rfl, rfl, rfl⟩ := trodAll_nil r0
  obtain rfl : args = #[v0] := by cases args; simp_all
  obtain ⟨rfl, rfl⟩ := trodVars_none hV
  clear hA0 hval0
  simp only [List.append_nil] at hW'
  have hlt : ∀ x ∈ (p0 ++ []), x.block < W.heap.size := fun x hx => hW'.lt x (by simpa using hx)
  have hlt0 : ∀ x ∈ p0, x.block < W.heap.size := fun x hx => hlt x (by simp [hx])
  have hag0 : ∀ (W' : World), Below W.heap.size W W' → DataW.Trod enc Try.prog W' 0 (fun b => decide (b < W.heap.size)) true 22 v0 d0 p0 :=
    fun W' hn => Below.trod laid_out rd_B (of_decide_eq_true (by kernel_rfl)) h0 hn hlt0
  obtain ⟨A0, c0, l0, rfl, hr0, hm0⟩ := open_B (hval 0 22 v0 rfl rfl) h0 hlt0
  refine (walk_FnTurn W A0 c0 l0 hr0 hm0).mono fun e W' ⟨he, hb⟩ => ?_
  subst he
  exact ⟨_, rfl, _, _, _, [], (p0 ++ []), [], hW', (trodAll_cons_mk (shut_bool Try.underlying4 _) trodAll_mk0), (trodAll_cons_mk (hag0 W' hb) trodAll_mk0), rfl, hb.frame _, fun h => by cases h⟩

theorem over_FnTurn : Rows.fnTurnRow.holds Try.pinned (OpenSpec.ofChange Rows.fnTurnSpec) :=
  OpenClaim.holds_of_wide 3 Try.f3 rfl rfl rfl rfl rfl rfl rfl ⟨rfl, rfl, rfl, rfl, rfl⟩ rfl rfl rfl rfl rfl (by kernel_rfl) Try.func3 (by kernel_rfl)
    (of_decide_eq_true (by kernel_rfl)) (by unfold Func.isWrapper; first | (rw [if_pos (by decide +kernel)]; kernel_rfl) | (rw [if_neg (by decide +kernel)]; exact ⟨rfl, rfl⟩))
    (fun os started H enc _ => lifted_FnTurn os started H enc)

theorem holds_FnTurn : Rows.FnTurnSaid := over_FnTurn
#print axioms holds_FnTurn
end Go.Proofs.Ytpgjnfleejleoaa
