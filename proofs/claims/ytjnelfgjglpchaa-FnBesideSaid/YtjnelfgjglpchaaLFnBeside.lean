/- The law FnBeside returns true for every code. No condition on the input. -/
import Derived.Test.YtjnelfgjglpchaaZ
import Derived.Test.YtjnelfgjglpchaaYB
import Derived.Test.YtjnelfgjglpchaaXC
import Derived.Test.YtjnelfgjglpchaaO
namespace Go.Proofs.Ytjnelfgjglpchaa
open Go.ChangeShapes Go.WideShapes Go.ChangeAt Go.RowKit

theorem beside_parts {g h : List ByteArray} (hb : besideB g h = true) : gridB g = true ∧ gridB h = true ∧ g.length = h.length ∧ gridB (gBeside g h) = true := by
  unfold besideB at hb
  simp only [Bool.and_eq_true, beq_iff_eq] at hb
  exact ⟨hb.1.1.1, hb.1.1.2, hb.1.2, hb.2⟩
theorem part_R {g : List ByteArray} {t l a b : Nat} {k j : Int} (hg : gridB g = true) (h1 : t ≤ l) (h2 : l < g.length) (h3 : a ≤ b) (h4 : b < width g) (hk : k = (l : Int)) (hj : j = (b : Int)) :
    partB g t k a j = true ∧ partR g t k a j = gPart g t l a b := by
  subst hk; subst hj
  have hB : partB g (t : Nat) (l : Nat) (a : Nat) (b : Nat) = true := partB_iff.2 ⟨hg, ⟨by omega, by omega, by omega⟩, ⟨by omega, by omega, by omega⟩⟩
  refine ⟨hB, ?_⟩
  unfold partR
  rw [hB, if_pos rfl]
  simp only [Int.toNat_natCast]

set_option maxHeartbeats 1600000 in
theorem walk_FnBeside (w : World) (A : Option Addr) (c : Nat) (l : List UInt8) (hr : Rd w w.heap.size A (bv l)) (hm : l.length ≤ c ∧ l.length ≤ maxLen) :
    Calls Try.prog 8 #[.slice A l.length c] w fun e w' => e = .returned (.bool true) ∧ Below w.heap.size w w' := by
  by_cases hl : 1048576 < l.length
  · go_enter Try.func8, Try.ntmps8
    go_wp2
    go_ret
    exact ⟨rfl, Below.refl _ _⟩
  have hlb : decide ((1048576 : Int) < (l.length : Int)) = false := decide_eq_false (by omega)
  clear hl
  go_enter Try.func8, Try.ntmps8
  go_wp2_with fail
  refine (DrawGridBeside_any l A c _ hr hm).mono ?_
  rintro e w1 ⟨g, h, A1, B1, c1, d1, rfl, hg, hh, hgz, hhz, hb, hcp, hdp⟩
  obtain ⟨hlo, hhi, hsz⟩ := hgz
  obtain ⟨klo, khi, ksz⟩ := hhz
  have hgm : g.length ≤ maxLen := by unfold maxLen; omega
  have hgs : ∀ s ∈ g, s.size ≤ maxLen := fun s hs => by have := hsz s hs; unfold maxLen; omega
  have hhm : h.length ≤ maxLen := by unfold maxLen; omega
  have hhs : ∀ s ∈ h, s.size ≤ maxLen := fun s hs => by have := ksz s hs; unfold maxLen; omega
  clear hr hlb hsz ksz
  have hi := iGridBeside_any A1 B1 c1 d1 g h w1 hg hh hgm hgs hhm hhs
  have hsS := fun (w : World) (k1 : Rd w w.heap.size A1 (sv g)) (k2 : Rd w w.heap.size B1 (sv h)) => sGridBeside_any A1 B1 c1 d1 g h w k1 k2 hgm hgs hhm hhs
  have hln := len_gridbeside g h
  obtain ⟨R, hR⟩ : ∃ R, orNone2 (besideB g h) (gBeside g h) = R := ⟨_, rfl⟩
  have hRsm : R = [] ∨ gridB R = true := by
    rw [← hR]
    cases hq : besideB g h
    · exact .inl rfl
    · exact .inr (by unfold orNone2; rw [if_pos rfl]; exact (fun hq => (beside_parts hq).2.2.2) hq)
  obtain ⟨hRm, hRs⟩ := small_of hRsm
  rw [hR] at hi hln
  simp only [hR] at hsS
  obtain ⟨b, hbB⟩ : ∃ b, besideB g h = b := ⟨_, rfl⟩
  rw [hbB] at hi
  simp only [hbB] at hsS
  have HI := Lib.hid hi
  have HS := Lib.hid hsS
  have HR := Lib.hid hR
  have HB := Lib.hid hbB
  clear hi hsS hR hbB hRsm
  go_wp2_with fail
  refine HI.out.mono ?_
  rintro e w2 ⟨A2, c2, rfl, hown, hb2⟩
  have hg2 := hg.later hb2
  have hh2 := hh.later hb2
  have hx2 := Rd.of_own hown
  have hcap2 := (own_cap hown).1
  have hbb2 := below_next hb hb2
  clear hown HI hg hh hb hb2
  go_wp2_with fail
  refine (HS.out _ hg2 hh2).mono ?_
  rintro e w3 ⟨A3, c3, rfl, hown, hb3⟩
  have hg3 := hg2.later hb3
  have hh3 := hh2.later hb3
  have hx3 := hx2.later hb3
  have hy3 := Rd.of_own hown
  have hbb3 := below_next hbb2 hb3
  clear hown HS hg2 hh2 hx2 hbb2 hb3
  have HT := Lib.hid (sameTexts_same A2 A3 c2 c3 R w3 _ _ hx3 hy3 hRm)
  go_wp2_with fail
  refine HT.out.mono ?_
  rintro e w4 ⟨rfl, hd4⟩
  have hb4 := hd4.below w3.heap.size
  have hg4 := hg3.later hb4
  have hh4 := hh3.later hb4
  have hx4 := hx3.later hb4
  have hy4 := hy3.later hb4
  have hbb4 := below_next hbb3 hb4
  clear hb4 HT hg3 hh3 hx3 hy3 hbb3 hd4
  cases b
  · clear hgs
    have HT := Lib.hid (sameTexts_same A2 A3 c2 c3 R w4 _ _ hx4 hy4 hRm)
    go_wp2_with fail
    refine HT.out.mono ?_
    rintro e w5 ⟨rfl, hd5⟩
    have hbb5 := below_next hbb4 (hd5.below _)
    clear hd5
    go_wp2
    go_ret
    exact ⟨rfl, hbb5⟩
  obtain ⟨hgB, hhB, hlB, hoB⟩ := beside_parts HB.out
  have hRg : R = gBeside g h := by rw [← HR.out, HB.out]; rfl
  have h1 := grid_len hgB
  have h2 := grid_width hgB
  have h3 := grid_len hhB
  have h4 := grid_width hhB
  have hw := beside_width hgB hhB hlB
  have hbl := gBeside_length hlB
  obtain ⟨s0, hs0⟩ : ∃ s0, g[0] = s0 := ⟨_, rfl⟩
  have hz0 : s0.size = width g := by rw [← hs0]; exact grid_row hgB 0 (by omega)
  obtain ⟨t0, ht0⟩ : ∃ t0, h[0] = t0 := ⟨_, rfl⟩
  have hzt : t0.size = width h := by rw [← ht0]; exact grid_row hhB 0 (by omega)
  have hs5 : s0.size ≤ 5 := by omega
  have ht5 : t0.size ≤ 5 := by omega
  have p1 := part_R (g := R) (t := 0) (l := g.length - 1) (a := 0) (b := width g - 1) (k := (g.length : Int) - 1) (j := (s0.size : Int) - 1) (by rw [hRg]; exact hoB) (by omega) (by rw [hRg]; omega) (by omega) (by rw [hRg]; omega) (by omega) (by omega)
  have p2 := part_R (g := R) (t := 0) (l := g.length - 1) (a := s0.size) (b := width g + width h - 1) (k := (g.length : Int) - 1) (j := (s0.size : Int) + (t0.size : Int) - 1) (by rw [hRg]; exact hoB) (by omega) (by rw [hRg]; omega) (by omega) (by rw [hRg]; omega) (by omega) (by omega)
  rw [hRg, beside_left hgB hhB hlB hoB, ← hRg] at p1
  rw [hz0] at p2
  rw [hRg, beside_right hgB hhB hlB hoB, ← hRg] at p2
  rw [← hz0] at p2
  have q1 := fun (w : World) (k : Rd w w.heap.size A2 (sv R)) (hc : R.length ≤ c2) => iGridPart_any A2 c2 R 0 ((g.length : Int) - 1) 0 ((s0.size : Int) - 1) w k hc hRm hRs
  have q2 := fun (w : World) (k : Rd w w.heap.size A2 (sv R)) (hc : R.length ≤ c2) => iGridPart_any A2 c2 R 0 ((g.length : Int) - 1) s0.size ((s0.size : Int) + (t0.size : Int) - 1) w k hc hRm hRs
  rw [show ((0 : Nat) : Int) = 0 from rfl] at p1 p2
  rw [p1.1, p1.2] at q1
  rw [p2.1, p2.2] at q2
  have Q1 := Lib.hid (q1 _ hx4 hcap2)
  have Q2 := Lib.hid q2
  clear q1 q2 p1 p2
  obtain ⟨b0, off0, rfl, hb0, hc0⟩ := hg4.at_ (sv_get g 0 (by omega))
  rw [hs0, Nat.add_zero] at hc0
  have HZ := Lib.hid (show h[0] = t0 from ht0)
  have HHL := Lib.hid (show 0 < h.length by omega)
  clear hz0 hzt hs0 ht0 hgs hhs hRs hRg hw hbl hlB hgB hhB hoB
  go_wp2_with fail
  refine Q1.out.mono ?_
  rintro e w5 ⟨A5, c5, rfl, hown, hb5⟩
  have hg5 := hg4.later hb5
  have hh5 := hh4.later hb5
  have hx5 := hx4.later hb5
  have hz5 := Rd.of_own hown
  have hbb5 := below_next hbb4 hb5
  clear hown Q1 hb5 hg4 hh4 hx4 hy4 hbb4 hc0
  have HQ := Lib.hid (Q2.out _ hx5 hcap2)
  obtain ⟨b1, off1, rfl, hb1', hc1⟩ := hh5.at_ (sv_get h 0 HHL.out)
  rw [HZ.out, Nat.add_zero] at hc1
  go_wp2_with fail
  refine HQ.out.mono ?_
  rintro e w6 ⟨A6, c6, rfl, hown, hb6⟩
  have hg6 := hg5.later hb6
  have hh6 := hh5.later hb6
  have hz6 := hz5.later hb6
  have hy6 := Rd.of_own hown
  have hbb6 := below_next hbb5 hb6
  clear hown HQ Q2 hb6 hg5 hh5 hx5 hz5 hbb5 hc1
  have HT := Lib.hid (sameTexts_same A5 _ c5 c1 g w6 _ _ hz6 hg6 hgm)
  go_wp2_with fail
  refine HT.out.mono ?_
  rintro e w7 ⟨rfl, hd7⟩
  have hh7 := hh6.later (hd7.below _)
  have hy7 := hy6.later (hd7.below _)
  have hbb7 := below_next hbb6 (hd7.below _)
  clear HT hg6 hh6 hz6 hy6 hbb6 hd7
  have HT := Lib.hid (sameTexts_same A6 _ c6 d1 h w7 _ _ hy7 hh7 hhm)
  go_wp2_with fail
  refine HT.out.mono ?_
  rintro e w8 ⟨rfl, hd8⟩
  have hbb8 := below_next hbb7 (hd8.below _)
  clear hd8
  go_wp2
  go_ret
  exact ⟨rfl, hbb8⟩
set_option maxRecDepth 100000 in
theorem lifted_FnBeside (os : Os) (started : os.Started) (H : Type) (enc : TypeId × Value → H) :
    ReturnsInHanded {} Try.checked os 8 .any (Rows.fnBesideSpec.pre6 enc Try.prog Try.f8 Rows.fnBesideRow.domain false) (Rows.fnBesideSpec.post enc Try.prog Try.f8 false true false false) := by
  refine returnsInHanded_of_change (C := Try.checked) own_knob started (by kernel_rfl) Try.func8
    (ChangeSpec.witness6 (enc := enc) (C := Try.checked) false ⟨#[], #[.slice none 0 0], []⟩ 8 (by kernel_rfl) (by kernel_rfl) (by kernel_rfl) (by kernel_rfl)) ?_
  intro W base args ds gs before hval0 hW hcnd _
  have hval : ∀ (j : Nat) t v, Try.f8.params[j]? = some t → args[j]? = some v → Value.okWide Try.prog W .any base t v := hval0
  have hW' := hW
  obtain ⟨p, q, hA0, hV, rfl, hfz, hnd⟩ := hW
  have hA : DataW.TrodAll enc Try.prog W 0 (fun _ => true) true Try.f8.params.toList args.toList ds p := hA0
  rw [Try.params8] at hA hval
  obtain ⟨v0, vs0, d0, ds0, p0, q0, hargs, rfl, rfl, h0, r0⟩ := trodAll_cons hA
  obtain ⟨rfl, rfl, rfl⟩ := trodAll_nil r0
  obtain rfl : args = #[v0] := by cases args; simp_all
  obtain ⟨rfl, rfl⟩ := trodVars_none hV
  clear hA0 hval0
  simp only [List.append_nil] at hW'
  have hlt : ∀ x ∈ (p0 ++ []), x.block < W.heap.size := fun x hx => hW'.lt x (by simpa using hx)
  have hlt0 : ∀ x ∈ p0, x.block < W.heap.size := fun x hx => hlt x (by simp [hx])
  have hag0 : ∀ (W' : World), Below W.heap.size W W' → DataW.Trod enc Try.prog W' 0 (fun b => decide (b < W.heap.size)) true 29 v0 d0 p0 :=
    fun W' hn => Below.trod laid_out rd_B (of_decide_eq_true (by kernel_rfl)) h0 hn hlt0
  obtain ⟨A0, c0, l0, rfl, hr0, hm0⟩ := open_B (hval 0 29 v0 rfl rfl) h0 hlt0
  refine (walk_FnBeside W A0 c0 l0 hr0 hm0).mono fun e W' ⟨he, hb⟩ => ?_
  subst he
  exact ⟨_, rfl, _, _, _, [], (p0 ++ []), [], hW', (trodAll_cons_mk (shut_bool Try.underlying4 _) trodAll_mk0), (trodAll_cons_mk (hag0 W' hb) trodAll_mk0), rfl, hb.frame _, fun h => by cases h⟩

theorem over_FnBeside : Rows.fnBesideRow.holds Try.pinned (OpenSpec.ofChange Rows.fnBesideSpec) :=
  OpenClaim.holds_of_wide 8 Try.f8 rfl rfl rfl rfl rfl rfl rfl ⟨rfl, rfl, rfl, rfl, rfl⟩ rfl rfl rfl rfl rfl (by kernel_rfl) Try.func8 (by kernel_rfl)
    (of_decide_eq_true (by kernel_rfl)) (by unfold Func.isWrapper; first | (rw [if_pos (by decide +kernel)]; kernel_rfl) | (rw [if_neg (by decide +kernel)]; exact ⟨rfl, rfl⟩))
    (fun os started H enc _ => lifted_FnBeside os started H enc)

theorem holds_FnBeside : Rows.FnBesideSaid := over_FnBeside
#print axioms holds_FnBeside
end Go.Proofs.Ytjnelfgjglpchaa
