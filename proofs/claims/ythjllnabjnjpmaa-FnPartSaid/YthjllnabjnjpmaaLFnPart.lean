/- The law FnPart returns true for every code. No condition on the input. -/
import Derived.Test.YthjllnabjnjpmaaXG
import Derived.Test.YthjllnabjnjpmaaR
import Derived.Test.YthjllnabjnjpmaaZ
import Derived.Test.YthjllnabjnjpmaaYB
namespace Go.Proofs.Ythjllnabjnjpmaa
set_option maxRecDepth 100000
open Go.ChangeShapes Go.WideShapes Go.ChangeAt Go.RowKit

theorem gPart_get {g : List ByteArray} {t l a b k : Nat} (hk : k < (gPart g t l a b).length) (h : t + k < g.length) : (gPart g t l a b)[k] = (g[t + k]).extract a (b + 1) := by
  simp [gPart]
theorem part_law {g : List ByteArray} {top low left right : Int} (h : partB g top low left right = true) :
    ∃ t l a b p q : Nat, top = (t : Nat) ∧ low = (l : Nat) ∧ left = (a : Nat) ∧ right = (b : Nat) ∧ (l : Int) - (t : Int) = (p : Nat) ∧ (b : Int) - (a : Int) = (q : Nat) ∧ p ≤ 4 ∧ q ≤ 4 ∧
      (partR g top low left right).length = p + 1 ∧ width (partR g top low left right) = q + 1 ∧ gridB (partR g top low left right) = true ∧ partB (partR g top low left right) 0 (p : Nat) 0 (q : Nat) = true ∧ partR (partR g top low left right) 0 (p : Nat) 0 (q : Nat) = partR g top low left right := by
  obtain ⟨hg, ⟨h1, h2, h3⟩, ⟨h4, h5, h6⟩⟩ := partB_iff.1 h
  obtain ⟨t, rfl⟩ := Int.eq_ofNat_of_zero_le h1
  obtain ⟨l, rfl⟩ := Int.eq_ofNat_of_zero_le (Int.le_trans h1 h2)
  obtain ⟨a, rfl⟩ := Int.eq_ofNat_of_zero_le h4
  obtain ⟨b, rfl⟩ := Int.eq_ofNat_of_zero_le (Int.le_trans h4 h5)
  obtain ⟨gl1, gl2⟩ := grid_len hg
  obtain ⟨gw1, gw2⟩ := grid_width hg
  have hR : partR g (t : Nat) (l : Nat) (a : Nat) (b : Nat) = gPart g t l a b := by unfold partR; rw [if_pos h]; rfl
  rw [hR]
  have hlen : (gPart g t l a b).length = l + 1 - t := gPart_length (by omega) (by omega)
  have hrow : ∀ k (hk : k < (gPart g t l a b).length), rowB (b + 1 - a) (gPart g t l a b)[k] = true := fun k hk => by
    have htk : t + k < g.length := by omega
    have hz := grid_row hg (t + k) htk
    rw [gPart_get hk htk, rowB_iff]
    have hz2 : ((g[t + k]).extract a (b + 1)).size = b + 1 - a := by rw [ByteArray.size_extract, hz]; omega
    refine ⟨hz2, fun j hj => ?_⟩
    rw [hz2] at hj
    rw [ByteArray.getElem_extract]
    exact grid_letter hg (t + k) htk (a + j) (by omega)
  have hw : width (gPart g t l a b) = b + 1 - a := by rw [width_eq (by omega)]; exact (rowB_iff.1 (hrow 0 (by omega))).1
  have hG : gridB (gPart g t l a b) = true := gridB_iff.2 ⟨by omega, by omega, fun k hk => by rw [hw]; exact hrow k hk⟩
  generalize gPart g t l a b = R at *
  have hB : partB R 0 ((l - t : Nat) : Int) 0 ((b - a : Nat) : Int) = true := partB_iff.2 ⟨hG, ⟨by omega, by omega, by omega⟩, ⟨by omega, by omega, by omega⟩⟩
  refine ⟨t, l, a, b, l - t, b - a, rfl, rfl, rfl, rfl, by omega, by omega, by omega, by omega, by omega, by omega, hG, hB, ?_⟩
  unfold partR
  rw [if_pos hB]
  show gPart R 0 (l - t) 0 (b - a) = R
  have hl2 : (gPart R 0 (l - t) 0 (b - a)).length = R.length := by rw [gPart_length (by omega) (by omega)]; omega
  refine List.ext_getElem hl2 fun k hk1 hk2 => ?_
  rw [gPart_get hk1 (by omega)]
  have hz := grid_row hG k hk2
  have e : b - a + 1 = R[k].size := by omega
  simp only [Nat.zero_add]
  rw [e, ByteArray.extract_zero_size]

set_option maxHeartbeats 3200000 in
theorem walk_FnPart (w : World) (A : Option Addr) (c : Nat) (l : List UInt8) (hr : Rd w w.heap.size A (bv l)) (hm : l.length ≤ c ∧ l.length ≤ maxLen) :
    Calls Try.prog 3 #[.slice A l.length c] w fun e w' => e = .returned (.bool true) ∧ Below w.heap.size w w' := by
  by_cases hl : 1048576 < l.length
  · go_enter Try.func3, Try.ntmps3
    go_wp2
    go_ret
    exact ⟨rfl, Below.refl _ _⟩
  have hlb : decide ((1048576 : Int) < (l.length : Int)) = false := decide_eq_false (by omega)
  clear hl
  go_enter Try.func3, Try.ntmps3
  go_wp2_with fail
  refine (DrawGridPart_any l A c _ hr hm).mono ?_
  rintro e w1 ⟨g, A1, c1, top, low, left, right, rfl, hg, hgz, hb, hcp⟩
  obtain ⟨hlo, hhi, hsz⟩ := hgz
  have hgm : g.length ≤ maxLen := by unfold maxLen; omega
  have hgs : ∀ s ∈ g, s.size ≤ maxLen := fun s hs => by have := hsz s hs; unfold maxLen; omega
  clear hr hlb hsz
  have hi := iGridPart_any A1 c1 g top low left right w1 hg hcp hgm hgs
  have hsS := fun (w : World) (h : Rd w w.heap.size A1 (sv g)) => sGridPart_any A1 c1 g top low left right w h hgm hgs
  have hlaw := fun h => part_law (g := g) (top := top) (low := low) (left := left) (right := right) h
  have hRsm : partR g top low left right = [] ∨ gridB (partR g top low left right) = true := by
    cases hq : partB g top low left right
    · exact .inl (partR_no hq)
    · obtain ⟨_, _, _, _, _, _, _, _, _, _, _, _, _, _, _, _, h5, _⟩ := part_law hq
      exact .inr h5
  obtain ⟨hRm, hRs⟩ := small_of hRsm
  obtain ⟨R, hR⟩ : ∃ R, partR g top low left right = R := ⟨_, rfl⟩
  obtain ⟨b, hbB⟩ : ∃ b, partB g top low left right = b := ⟨_, rfl⟩
  rw [hR] at hRm hRs
  rw [hR, hbB] at hi
  simp only [hR, hbB] at hsS hlaw
  have HI := Lib.hid hi
  have HS := Lib.hid hsS
  have HLAW := Lib.hid hlaw
  clear hi hsS hR hbB hlaw hRsm hcp
  go_wp2_with fail
  refine HI.out.mono ?_
  rintro e w2 ⟨A2, c2, rfl, hown, hb2⟩
  have hg2 := hg.later hb2
  have hx2 := Rd.of_own hown
  have hcap2 := (own_cap hown).1
  have hbb2 := below_next hb hb2
  have HS2 := Lib.hid (HS.out _ hg2)
  clear hown HI HS hg hb hb2 hg2
  go_wp2_with fail
  refine HS2.out.mono ?_
  rintro e w3 ⟨A3, c3, rfl, hown, hb3⟩
  have hx3 := hx2.later hb3
  have hy3 := Rd.of_own hown
  have hbb3 := below_next hbb2 hb3
  clear hown HS2 hx2 hbb2 hb3
  have HT := Lib.hid (sameTexts_same A2 A3 c2 c3 R w3 _ _ hx3 hy3 hRm)
  go_wp2_with fail
  refine HT.out.mono ?_
  rintro e w4 ⟨rfl, hd4⟩
  have hb4 := hd4.below w3.heap.size
  have hx4 := hx3.later hb4
  have hy4 := hy3.later hb4
  have hbb4 := below_next hbb3 hb4
  clear hb4 HT hx3 hy3 hbb3 hd4
  cases b
  · clear hRs
    have HT := Lib.hid (sameTexts_same A2 A3 c2 c3 R w4 _ _ hx4 hy4 hRm)
    go_wp2_with fail
    refine HT.out.mono ?_
    rintro e w5 ⟨rfl, hd5⟩
    have hbb5 := below_next hbb4 (hd5.below _)
    clear hd5
    go_wp2
    go_ret
    exact ⟨rfl, hbb5⟩
  obtain ⟨t, l2, a, b2, p, q, rfl, rfl, rfl, rfl, hsub1, hsub2, hp4, hq4, hlen, hwid, hG, p1, p2⟩ := HLAW.out rfl
  have hrpos : 0 < R.length := by omega
  obtain ⟨b3, o3, rfl, hbb3', x3⟩ := hx4.at_ (sv_get R 0 hrpos)
  rw [Nat.add_zero] at x3
  obtain ⟨s0, hs0, hz0⟩ : ∃ s0, R[0] = s0 ∧ s0.size = q + 1 := ⟨R[0], rfl, by rw [grid_row hG 0 hrpos, hwid]⟩
  rw [hs0] at x3
  have hi2 := iGridPart_any (some ⟨b3, o3, none⟩) c2 R 0 (p : Nat) 0 (q : Nat) w4 hx4 hcap2 hRm hRs
  rw [p1, p2] at hi2
  have HI2 := Lib.hid hi2
  have HX4 := Lib.hid hx4
  have hcmp1 : ((R.length : Int) == (p : Int) + 1) = true := int_beq_yes (by omega)
  have hcmp2 : ((s0.size : Int) == (q : Int) + 1) = true := int_beq_yes (by omega)
  clear hi2 p1 p2 hs0 hG hlen hwid hz0 hRs hgs HLAW hy4 hx4 hcap2
  go_wp2_with fail
  refine HI2.out.mono ?_
  rintro e w5 ⟨A5, c5, rfl, ho5, hb5⟩
  have HY5 := Lib.hid (Rd.of_own ho5)
  have HX5 := Lib.hid (HX4.out.later hb5)
  have hc5 := (hb5.cell (p := ⟨b3, o3, none⟩) hbb3').trans x3
  have hbb5 := below_next hbb4 hb5
  clear ho5 hb5 x3 HI2 HX4 hbb4
  have HT := Lib.hid (sameTexts_same A5 (some ⟨b3, o3, none⟩) c5 c2 R w5 _ _ HY5.out HX5.out hRm)
  go_wp2_with fail
  refine HT.out.mono ?_
  rintro e w6 ⟨rfl, hd6⟩
  go_wp2
  go_ret
  exact ⟨rfl, below_next hbb5 (hd6.below _)⟩
set_option maxRecDepth 100000 in
theorem lifted_FnPart (os : Os) (started : os.Started) (H : Type) (enc : TypeId × Value → H) :
    ReturnsInHanded {} Try.checked os 3 .any (Rows.fnPartSpec.pre6 enc Try.prog Try.f3 Rows.fnPartRow.domain false) (Rows.fnPartSpec.post enc Try.prog Try.f3 false true false false) := by
  refine returnsInHanded_of_change (C := Try.checked) own_knob started (by kernel_rfl) Try.func3
    (ChangeSpec.witness6 (enc := enc) (C := Try.checked) false ⟨#[], #[.slice none 0 0], []⟩ 8 (by kernel_rfl) (by kernel_rfl) (by kernel_rfl) (by kernel_rfl)) ?_
  intro W base args ds gs before hval0 hW hcnd _
  have hval : ∀ (j : Nat) t v, Try.f3.params[j]? = some t → args[j]? = some v → Value.okWide Try.prog W .any base t v := hval0
  have hW' := hW
  obtain ⟨p, q, hA0, hV, rfl, hfz, hnd⟩ := hW
  have hA : DataW.TrodAll enc Try.prog W 0 (fun _ => true) true Try.f3.params.toList args.toList ds p := hA0
  rw [Try.params3] at hA hval
  obtain ⟨v0, vs0, d0, ds0, p0, q0, hargs, rfl, rfl, h0, r0⟩ := trodAll_cons hA
  obtain ⟨rfl, rfl, rfl⟩ := trodAll_nil r0
  obtain rfl : args = #[v0] := by cases args; simp_all
  obtain ⟨rfl, rfl⟩ := trodVars_none hV
  clear hA0 hval0
  simp only [List.append_nil] at hW'
  have hlt : ∀ x ∈ (p0 ++ []), x.block < W.heap.size := fun x hx => hW'.lt x (by simpa using hx)
  have hlt0 : ∀ x ∈ p0, x.block < W.heap.size := fun x hx => hlt x (by simp [hx])
  have hag0 : ∀ (W' : World), Below W.heap.size W W' → DataW.Trod enc Try.prog W' 0 (fun b => decide (b < W.heap.size)) true 22 v0 d0 p0 :=
    fun W' hn => Below.trod laid_out rd_B (of_decide_eq_true (by kernel_rfl)) h0 hn hlt0
  obtain ⟨A0, c0, l0, rfl, hr0, hm0⟩ := open_B (hval 0 22 v0 rfl rfl) h0 hlt0
  refine (walk_FnPart W A0 c0 l0 hr0 hm0).mono fun e W' ⟨he, hb⟩ => ?_
  subst he
  exact ⟨_, rfl, _, _, _, [], (p0 ++ []), [], hW', (trodAll_cons_mk (shut_bool Try.underlying4 _) trodAll_mk0), (trodAll_cons_mk (hag0 W' hb) trodAll_mk0), rfl, hb.frame _, fun h => by cases h⟩

theorem over_FnPart : Rows.fnPartRow.holds Try.pinned (OpenSpec.ofChange Rows.fnPartSpec) :=
  OpenClaim.holds_of_wide 3 Try.f3 rfl rfl rfl rfl rfl rfl rfl ⟨rfl, rfl, rfl, rfl, rfl⟩ rfl rfl rfl rfl rfl (by kernel_rfl) Try.func3 (by kernel_rfl)
    (of_decide_eq_true (by kernel_rfl)) (by unfold Func.isWrapper; first | (rw [if_pos (by decide +kernel)]; kernel_rfl) | (rw [if_neg (by decide +kernel)]; exact ⟨rfl, rfl⟩))
    (fun os started H enc _ => lifted_FnPart os started H enc)

theorem holds_FnPart : Rows.FnPartSaid := over_FnPart
#print axioms holds_FnPart
end Go.Proofs.Ythjllnabjnjpmaa
