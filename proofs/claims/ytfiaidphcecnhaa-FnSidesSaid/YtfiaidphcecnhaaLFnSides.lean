/- The law FnSides returns true for every code. No condition on the input. -/
import Derived.Test.YtfiaidphcecnhaaXD
import Derived.Test.YtfiaidphcecnhaaYC
import Derived.Test.YtfiaidphcecnhaaBK
import Derived.Test.YtfiaidphcecnhaaEI
namespace Go.Proofs.Ytfiaidphcecnhaa
open Go.ChangeShapes Go.WideShapes Go.ChangeAt Go.RowKit

theorem sides_sum2 {g : List ByteArray} {p : Int} (h : givenB g p = true) : (sidesA g p).sum = lenA g p ∧ (sidesA g p).length = 4 := by
  obtain ⟨k, rfl, hk, hg⟩ := given_nat h
  obtain ⟨he, _⟩ := ends_B hg hk
  have hd := dirs_lt (Fd.enter_ok (grid_hn hg) (grid_hm hg) (by rw [ports_fld]; exact hk)) he.on
  rw [sidesA_yes h]
  refine ⟨?_, cnts_length _ _⟩
  have h1 := length_often 4 _ hd
  rw [dirsN_length] at h1
  unfold lenA
  rw [wayA_yes h, Fd.way_length]
  exact h1.symm

set_option maxHeartbeats 3200000 in
theorem walk_FnSides (w : World) (A : Option Addr) (c : Nat) (l : List UInt8) (hr : Rd w w.heap.size A (bv l)) (hm : l.length ≤ c ∧ l.length ≤ maxLen) :
    Calls Try.prog 7 #[.slice A l.length c] w fun e w' => e = .returned (.bool true) ∧ Below w.heap.size w w' := by
  by_cases hl : 1048576 < l.length
  · go_enter Try.func7, Try.ntmps7
    go_wp2
    go_ret
    exact ⟨rfl, Below.refl _ _⟩
  have hlb : decide ((1048576 : Int) < (l.length : Int)) = false := decide_eq_false (by omega)
  clear hl
  go_enter Try.func7, Try.ntmps7
  go_wp2_with fail
  refine (DrawBeamSides_any l A c _ hr hm).mono ?_
  rintro e w1 ⟨g, A1, c1, p, rfl, hg, hgz, hp, hb, hcp⟩
  obtain ⟨hlo, hhi, hsz⟩ := hgz
  have hgm : g.length ≤ maxLen := by unfold maxLen; omega
  have hgs : ∀ s ∈ g, s.size ≤ maxLen := fun s hs => by have := hsz s hs; unfold maxLen; omega
  clear hr hlb hcp hsz
  have hi := iBeamSides_any A1 c1 g p w1 hg hgm hgs
  have hsS := fun (w : World) (h : Rd w w.heap.size A1 (sv g)) => sBeamSides_any A1 c1 g p w h hgm hgs
  have hLm : (ni (sidesA g p)).length ≤ maxLen := by have := len_sidesA g p; unfold maxLen; omega
  obtain ⟨L, hL⟩ : ∃ L, sidesA g p = L := ⟨_, rfl⟩
  obtain ⟨b, hbB⟩ : ∃ b, givenB g p = b := ⟨_, rfl⟩
  have HK := Lib.hid hL
  have HB := Lib.hid hbB
  rw [hL, hbB] at hi
  simp only [hL, hbB] at hsS
  rw [hL] at hLm
  have HI := Lib.hid hi
  have HS := Lib.hid hsS
  clear hi hsS hL hbB
  go_wp2_with fail
  refine HI.out.mono ?_
  rintro e w2 ⟨A2, c2, rfl, hown, hb2⟩
  have hg2 := hg.later hb2
  have hx2 := Rd.of_own hown
  have hbb2 := below_next hb hb2
  have HS2 := Lib.hid (HS.out _ hg2)
  clear hown HI HS hg hb hb2
  go_wp2_with fail
  refine HS2.out.mono ?_
  rintro e w3 ⟨A3, c3, rfl, hown, hb3⟩
  have hg3 := hg2.later hb3
  have hx3 := hx2.later hb3
  have hy3 := Rd.of_own hown
  have hbb3 := below_next hbb2 hb3
  clear hown HS2 hg2 hx2 hbb2 hb3
  have HT := Lib.hid (sameInts_same A2 A3 c2 c3 (ni L) w3 _ _ hx3 hy3 hLm)
  go_wp2_with fail
  refine HT.out.mono ?_
  rintro e w4 ⟨rfl, hd4⟩
  have hb4 := hd4.below w3.heap.size
  have hg4 := hg3.later hb4
  have hx4 := hx3.later hb4
  have hy4 := hy3.later hb4
  have hbb4 := below_next hbb3 hb4
  clear hb4 HT hg3 hx3 hy3 hbb3 hd4
  cases b
  · have HT := Lib.hid (sameInts_same A2 A3 c2 c3 (ni L) w4 _ _ hx4 hy4 hLm)
    go_wp2_with fail
    refine HT.out.mono ?_
    rintro e w5 ⟨rfl, hd5⟩
    have hbb5 := below_next hbb4 (hd5.below _)
    clear hd5
    go_wp2
    go_ret
    exact ⟨rfl, hbb5⟩
  obtain ⟨k1, k2, _, _⟩ := endA_back HB.out
  obtain ⟨s1, s2⟩ := sides_sum2 HB.out
  obtain ⟨s3, s4⟩ := sides_sum2 k1
  rw [lenA_back HB.out] at s3
  rw [HK.out] at s1 s2
  have hK100 := wayA_len g p
  have hLn : lenA g p ≤ 100 := hK100
  have H1 := iBeamEnd_any A1 c1 g p w4 hg4 hgm hgs
  rw [HB.out] at H1
  have h2 := fun (w : World) (k : Rd w w.heap.size A1 (sv g)) => iBeamSides_any A1 c1 g (endA g p : Nat) w k hgm hgs
  rw [k1] at h2
  obtain ⟨q, hq⟩ : ∃ q, endA g p = q := ⟨_, rfl⟩
  rw [hq] at H1 h2 s3 s4
  obtain ⟨M, hM⟩ : ∃ M, sidesA g (q : Nat) = M := ⟨_, rfl⟩
  rw [hM] at h2 s3 s4
  rw [← s1] at s3
  have hL100 : L.sum ≤ 100 := by rw [s1]; exact hLn
  have H1 := Lib.hid H1
  have H2 := Lib.hid h2
  have HL4 := Lib.hid s2
  have HM4 := Lib.hid s4
  have HSUM := Lib.hid s3
  clear h2 hq hM hgs s1 s2 s3 s4 k1 k2 hK100 hLn
  go_wp2_with fail
  refine H1.out.mono ?_
  rintro e w5 ⟨rfl, hb5⟩
  have hg5 := hg4.later hb5
  have hx5 := hx4.later hb5
  have hbb5 := below_next hbb4 hb5
  have H2 := Lib.hid (H2.out _ hg5)
  clear H1 hb5 hg4 hx4 hy4 hbb4
  go_wp2_with fail
  refine H2.out.mono ?_
  rintro e w6 ⟨A6, c6, rfl, hown, hb6⟩
  have HX := Lib.hid (hx5.later hb6)
  have HBB := Lib.hid (below_next hbb5 hb6)
  have hT1 := total_any A6 c6 M w6 _ (Rd.of_own hown) (by rw [HM4.out]; omega) (by rw [HSUM.out]; omega)
  have hT2 := total_any A2 c2 L w6 _ HX.out (by rw [HL4.out]; omega) (by omega)
  rw [HSUM.out, HM4.out] at hT1
  rw [HL4.out] at hT2
  have hT1 := Lib.hid hT1
  have hT2 := Lib.hid hT2
  rw [ni_length, ni_length, HM4.out, HL4.out]
  clear hown H2 hb6 hg5 hx5 hbb5 hLm
  generalize L.sum = T at *
  have hTT : ((T : Int) == (T : Int)) = true := beq_self_eq_true _
  go_wp2
  go_loop [13] (fun i => ∃ (k : Nat), k ≤ 4 ∧ i = .int .i64 k) (fun i => 4 - (intOf i).toNat)
  case atStart => exact ⟨0, Nat.zero_le _, rfl⟩
  case round =>
    obtain ⟨i, hi, rfl⟩ := hrel
    by_cases hlt : i < 4
    · obtain ⟨b1, o1, hA1, hb1, x1⟩ := HX.out.at_ (niv_get L i (by rw [HL4.out]; exact hlt))
      subst hA1
      generalize L[i]'_ = y at *
      have hy : ¬ ((y : Int) < 0) := by omega
      go_wp2
      go_round
      case rel => exact ⟨i + 1, by omega, by go_num⟩
      case measure => simp [intOf]; omega
    · go_wp2_with fail
      refine hT1.out.mono ?_
      rintro e w7 ⟨rfl, rfl⟩
      go_wp2_with fail
      refine hT2.out.mono ?_
      rintro e w7 ⟨rfl, rfl⟩
      go_wp2
      go_ret
      exact ⟨rfl, HBB.out⟩
set_option maxRecDepth 100000 in
theorem lifted_FnSides (os : Os) (started : os.Started) (H : Type) (enc : TypeId × Value → H) :
    ReturnsInHanded {} Try.checked os 7 .any (Rows.fnSidesSpec.pre6 enc Try.prog Try.f7 Rows.fnSidesRow.domain false) (Rows.fnSidesSpec.post enc Try.prog Try.f7 false true false false) := by
  refine returnsInHanded_of_change (C := Try.checked) own_knob started (by kernel_rfl) Try.func7
    (ChangeSpec.witness6 (enc := enc) (C := Try.checked) false ⟨#[], #[.slice none 0 0], []⟩ 8 (by kernel_rfl) (by kernel_rfl) (by kernel_rfl) (by kernel_rfl)) ?_
  intro W base args ds gs before hval0 hW hcnd _
  have hval : ∀ (j : Nat) t v, Try.f7.params[j]? = some t → args[j]? = some v → Value.okWide Try.prog W .any base t v := hval0
  have hW' := hW
  obtain ⟨p, q, hA0, hV, rfl, hfz, hnd⟩ := hW
  have hA : DataW.TrodAll enc Try.prog W 0 (fun _ => true) true Try.f7.params.toList args.toList ds p := hA0
  rw [Try.params7] at hA hval
  obtain ⟨v0, vs0, d0, ds0, p0, q0, hargs, rfl, rfl, h0, r0⟩ := trodAll_cons hA
  obtain ⟨rfl, rfl, rfl⟩ := trodAll_nil r0
  obtain rfl : args = #[v0] := by cases args; simp_all
  obtain ⟨rfl, rfl⟩ := trodVars_none hV
  clear hA0 hval0
  simp only [List.append_nil] at hW'
  have hlt : ∀ x ∈ (p0 ++ []), x.block < W.heap.size := fun x hx => hW'.lt x (by simpa using hx)
  have hlt0 : ∀ x ∈ p0, x.block < W.heap.size := fun x hx => hlt x (by simp [hx])
  have hag0 : ∀ (W' : World), Below W.heap.size W W' → DataW.Trod enc Try.prog W' 0 (fun b => decide (b < W.heap.size)) true 32 v0 d0 p0 :=
    fun W' hn => Below.trod laid_out rd_B (of_decide_eq_true (by kernel_rfl)) h0 hn hlt0
  obtain ⟨A0, c0, l0, rfl, hr0, hm0⟩ := open_B (hval 0 32 v0 rfl rfl) h0 hlt0
  refine (walk_FnSides W A0 c0 l0 hr0 hm0).mono fun e W' ⟨he, hb⟩ => ?_
  subst he
  exact ⟨_, rfl, _, _, _, [], (p0 ++ []), [], hW', (trodAll_cons_mk (shut_bool Try.underlying4 _) trodAll_mk0), (trodAll_cons_mk (hag0 W' hb) trodAll_mk0), rfl, hb.frame _, fun h => by cases h⟩

theorem over_FnSides : Rows.fnSidesRow.holds Try.pinned (OpenSpec.ofChange Rows.fnSidesSpec) :=
  OpenClaim.holds_of_wide 7 Try.f7 rfl rfl rfl rfl rfl rfl rfl ⟨rfl, rfl, rfl, rfl, rfl⟩ rfl rfl rfl rfl rfl (by kernel_rfl) Try.func7 (by kernel_rfl)
    (of_decide_eq_true (by kernel_rfl)) (by unfold Func.isWrapper; first | (rw [if_pos (by decide +kernel)]; kernel_rfl) | (rw [if_neg (by decide +kernel)]; exact ⟨rfl, rfl⟩))
    (fun os started H enc _ => lifted_FnSides os started H enc)

theorem holds_FnSides : Rows.FnSidesSaid := over_FnSides
#print axioms holds_FnSides
end Go.Proofs.Ytfiaidphcecnhaa
