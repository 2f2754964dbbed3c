/- The law FnPut returns true for every code. No condition on the input. -/
import Derived.Test.YthjllnabjnjpmaaXG
import Derived.Test.YthjllnabjnjpmaaS
import Derived.Test.YthjllnabjnjpmaaZ
import Derived.Test.YthjllnabjnjpmaaYB
namespace Go.Proofs.Ythjllnabjnjpmaa
set_option maxRecDepth 100000
open Go.ChangeShapes Go.WideShapes Go.ChangeAt Go.RowKit

theorem one_list (b : UInt8) : (⟨#[b]⟩ : ByteArray).toList = [b] := bs_toList [b]
theorem putB_inv {g : List ByteArray} {n : Int} {t : ByteArray} (h : putB g n t = true) : gridB g = true ∧ ∃ (k : Nat) (b : UInt8), n = (k : Nat) ∧ k < cellsN g ∧ t = ⟨#[b]⟩ ∧ letterB b = true ∧ putR g n t = gPut g k b := by
  have h' := h
  unfold putB at h'
  simp only [Bool.and_eq_true, beq_iff_eq] at h'
  obtain ⟨⟨⟨hg, h1⟩, h2⟩, h3⟩ := h'
  have h1 := inB_iff.1 h1
  obtain ⟨k, rfl⟩ := Int.eq_ofNat_of_zero_le h1.1
  obtain ⟨b, rfl⟩ := one_byte h2
  rw [one_list] at h3
  refine ⟨hg, k, b, rfl, by omega, rfl, h3, ?_⟩
  unfold putR
  rw [if_pos h, one_list]; rfl
theorem put_grid {g : List ByteArray} (hg : gridB g = true) {k : Nat} {b : UInt8} (hb : letterB b = true) : gridB (gPut g k b) = true :=
  grid_mk (grid_len hg) (grid_width hg) fun r c hr hc => by
    show letterB (if r * width g + c = k then b else cellAt g r c) = true
    split
    · exact hb
    · exact cell_letter hg hr hc
theorem put_len (g : List ByteArray) (k : Nat) (b : UInt8) : (gPut g k b).length = g.length := mkG_length _ _ _
theorem put_width {g : List ByteArray} (hg : gridB g = true) (k : Nat) (b : UInt8) : width (gPut g k b) = width g := width_mk _ (grid_len hg).1
theorem put_cell {g : List ByteArray} (k : Nat) (b : UInt8) {r c : Nat} (hr : r < g.length) (hc : c < width g) : cellAt (gPut g k b) r c = if r * width g + c = k then b else cellAt g r c := cell_mk _ hr hc
theorem put_backX {g : List ByteArray} (hg : gridB g = true) {k : Nat} (hk : k < cellsN g) {b : UInt8} (hb : letterB b = true) :
    putB (gPut g k b) (k : Nat) ⟨#[cellAt g (k / width g) (k % width g)]⟩ = true ∧ putR (gPut g k b) (k : Nat) ⟨#[cellAt g (k / width g) (k % width g)]⟩ = g ∧ cellAt (gPut g k b) (k / width g) (k % width g) = b := by
  have hw := (grid_width hg).1
  have hr : k / width g < g.length := by rw [Nat.div_lt_iff_lt_mul (by omega)]; exact hk
  have hc : k % width g < width g := Nat.mod_lt _ (by omega)
  have hG := put_grid hg (k := k) hb
  have hlet := cell_letter hg hr hc
  have hce : cellsN (gPut g k b) = cellsN g := by unfold cellsN; rw [put_len, put_width hg]
  have hB : putB (gPut g k b) (k : Nat) ⟨#[cellAt g (k / width g) (k % width g)]⟩ = true := by
    unfold putB
    rw [hG, hce, inB_yes ⟨by omega, by omega⟩, one_list]
    show (true && true && true && letterB (cellAt g (k / width g) (k % width g))) = true
    rw [hlet]; rfl
  refine ⟨hB, ?_, ?_⟩
  · unfold putR
    rw [if_pos hB, one_list]
    show gPut (gPut g k b) k (cellAt g (k / width g) (k % width g)) = g
    refine grid_eq (put_grid hG hlet) hg (by rw [put_len, put_len]) (by rw [put_width hG, put_width hg]) fun r c hr1 hc1 => ?_
    rw [put_len, put_len] at hr1
    rw [put_width hG, put_width hg] at hc1
    rw [put_cell _ _ (by rw [put_len]; exact hr1) (by rw [put_width hg]; exact hc1), put_width hg, put_cell _ _ hr1 hc1]
    by_cases e : r * width g + c = k
    · rw [if_pos e]
      obtain ⟨e1, e2⟩ := (rc_iff hc1).1 e
      rw [← e1, ← e2]
    · rw [if_neg e, if_neg e]
  · rw [put_cell _ _ hr hc, if_pos ((rc_iff hc).2 ⟨rfl, rfl⟩)]
theorem extract_one (s : ByteArray) (c : Nat) (hc : c < s.size) : s.extract c (c + 1) = ⟨#[s[c]]⟩ := by
  refine ByteArray.ext ?_
  rw [ByteArray.data_extract]
  show s.data.extract c (c + 1) = #[s.data[c]]
  refine Array.ext (by simp; omega) fun i h1 h2 => ?_
  have : i = 0 := by simp at h2; omega
  subst this
  simp

set_option maxHeartbeats 3200000 in
theorem walk_FnPut (w : World) (A : Option Addr) (c : Nat) (l : List UInt8) (hr : Rd w w.heap.size A (bv l)) (hm : l.length ≤ c ∧ l.length ≤ maxLen) :
    Calls Try.prog 4 #[.slice A l.length c] w fun e w' => e = .returned (.bool true) ∧ Below w.heap.size w w' := by
  by_cases hl : 1048576 < l.length
  · go_enter Try.func4, Try.ntmps4
    go_wp2
    go_ret
    exact ⟨rfl, Below.refl _ _⟩
  have hlb : decide ((1048576 : Int) < (l.length : Int)) = false := decide_eq_false (by omega)
  clear hl
  go_enter Try.func4, Try.ntmps4
  go_wp2_with fail
  refine (DrawGridPut_any l A c _ hr hm).mono ?_
  rintro e w1 ⟨g, A1, c1, n, t, rfl, hg, hgz, hn, htz, hb, hcp⟩
  obtain ⟨hlo, hhi, hsz⟩ := hgz
  have hgm : g.length ≤ maxLen := by unfold maxLen; omega
  have hgs : ∀ s ∈ g, s.size ≤ maxLen := fun s hs => by have := hsz s hs; unfold maxLen; omega
  have htm : t.size ≤ maxLen := by unfold maxLen; omega
  clear hr hlb hcp hsz
  have hi := iGridPut_any A1 c1 g n t w1 hg hgm hgs htm
  have hsS := fun (w : World) (h : Rd w w.heap.size A1 (sv g)) => sGridPut_any A1 c1 g n t w h hgm hgs htm
  have hlaw := fun h => putB_inv (g := g) (n := n) (t := t) h
  have hRsm : putR g n t = [] ∨ gridB (putR g n t) = true := by
    cases hq : putB g n t
    · exact .inl (putR_no hq)
    · obtain ⟨h1, k, b, _, _, _, h5, h6⟩ := putB_inv hq
      rw [h6]; exact .inr (put_grid h1 h5)
  obtain ⟨hRm, hRs⟩ := small_of hRsm
  obtain ⟨R, hR⟩ : ∃ R, putR g n t = R := ⟨_, rfl⟩
  obtain ⟨b, hbB⟩ : ∃ b, putB g n t = b := ⟨_, rfl⟩
  rw [hR] at hRm hRs
  rw [hR, hbB] at hi
  simp only [hR, hbB] at hsS hlaw
  have HI := Lib.hid hi
  have HS := Lib.hid hsS
  have HLAW := Lib.hid hlaw
  clear hi hsS hR hbB hlaw hRsm
  go_wp2_with fail
  refine HI.out.mono ?_
  rintro e w2 ⟨A2, c2, rfl, hown, hb2⟩
  have hg2 := hg.later hb2
  have hx2 := Rd.of_own hown
  have hbb2 := below_next hb hb2
  have HS2 := Lib.hid (HS.out _ hg2)
  clear hown HI HS hg hb hb2
  go_wp2_with fail
  refine HS2.out.mono ?_
  rintro e w3 ⟨A3, c3, rfl, hown, hb3⟩
  have hg3 := hg2.later hb3
  have hx3 := hx2.later hb3
  have hy3 := Rd.of_own hown
  have hbb3 := below_next hbb2 hb3
  clear hown HS2 hg2 hx2 hbb2 hb3
  have HT := Lib.hid (sameTexts_same A2 A3 c2 c3 R w3 _ _ hx3 hy3 hRm)
  go_wp2_with fail
  refine HT.out.mono ?_
  rintro e w4 ⟨rfl, hd4⟩
  have hb4 := hd4.below w3.heap.size
  have hg4 := hg3.later hb4
  have hx4 := hx3.later hb4
  have hy4 := hy3.later hb4
  have hbb4 := below_next hbb3 hb4
  clear hb4 HT hg3 hx3 hy3 hbb3 hd4
  cases b
  · clear hRs
    have HT := Lib.hid (sameTexts_same A2 A3 c2 c3 R w4 _ _ hx4 hy4 hRm)
    go_wp2_with fail
    refine HT.out.mono ?_
    rintro e w5 ⟨rfl, hd5⟩
    have hbb5 := below_next hbb4 (hd5.below _)
    clear hd5
    go_wp2
    go_ret
    exact ⟨rfl, hbb5⟩
  obtain ⟨g1, k, bb, rfl, hk, rfl, hlb, rfl⟩ := HLAW.out rfl
  obtain ⟨p1, p2, p3⟩ := put_backX g1 hk hlb
  have hG := put_grid g1 (k := k) hlb
  obtain ⟨gl1, gl2⟩ := grid_len g1
  obtain ⟨gw1, gw2⟩ := grid_width g1
  have hpos : 0 < g.length := by omega
  have hM := cells_25 g1
  have hrl : k / width g < g.length := by rw [Nat.div_lt_iff_lt_mul (by omega)]; exact hk
  have hcl : k % width g < width g := Nat.mod_lt _ (by omega)
  have hpl := put_len g k bb
  have hpw := put_width g1 k bb
  generalize gPut g k bb = R at *
  obtain ⟨b, off, rfl, hbb, _⟩ := hg4.at_ (sv_get g 0 hpos)
  obtain ⟨s0, hc0, hz0⟩ : ∃ s0 : ByteArray, w4.cell? ⟨b, off, none⟩ = some (.string s0) ∧ s0.size = width g := ⟨g[0], by have := hg4.cell (sv_get g 0 hpos); rw [Nat.add_zero] at this; exact this, grid_row g1 0 hpos⟩
  obtain ⟨r, hrr⟩ : ∃ r, k / width g = r := ⟨_, rfl⟩
  obtain ⟨cl, hcc⟩ : ∃ cl, k % width g = cl := ⟨_, rfl⟩
  rw [hrr] at hrl p1 p2 p3
  rw [hcc] at hcl p1 p2 p3
  obtain ⟨row, hcr, hzr, hat⟩ : ∃ row : ByteArray, w4.cell? ⟨b, off + r, none⟩ = some (.string row) ∧ row.size = width g ∧ ∀ h : cl < row.size, cellAt g r cl = row[cl] :=
    ⟨g[r], hg4.cell (sv_get g r hrl), grid_row g1 r hrl, fun h => cellAt_eq hrl h⟩
  have hclr : cl < row.size := by omega
  have hext := extract_one row cl hclr
  rw [← hat hclr] at hext
  have hrl2 : r < R.length := by omega
  have hrow2 : (R[r]).size = width g := by rw [grid_row hG r hrl2, hpw]
  have hext2 : (R[r]).extract cl (cl + 1) = ⟨#[bb]⟩ := by
    rw [extract_one _ cl (by omega), ← cellAt_eq hrl2 (by omega), p3]
  obtain ⟨b3, o3, rfl, hbb3', x3⟩ := hx4.at_ (sv_get R r hrl2)
  obtain ⟨row2, hro2⟩ : ∃ row2, R[r] = row2 := ⟨_, rfl⟩
  rw [hro2] at hrow2 hext2 x3
  rw [← hz0] at hrr hcc hcl hzr hrow2
  have d1 : (k : Int) / (s0.size : Int) = (r : Int) := by rw [← Int.natCast_ediv, hrr]
  have d2 : (k : Int) % (s0.size : Int) = (cl : Int) := by rw [← Int.natCast_emod, hcc]
  have d3 : (k : Int).tdiv (s0.size : Int) = (r : Int) := by rw [← d1]; rfl
  have d4 : (k : Int).tmod (s0.size : Int) = (cl : Int) := by rw [← d2]; rfl
  have hnz : ¬ (s0.size = 0) := by omega
  have hz5 : s0.size ≤ 5 := by omega
  have hwr : IntKind.i64.wrap (r : Int) = (r : Int) := IntWalk.i64_in _ (by omega)
  have hrI : (r : Int) < (g.length : Int) := by omega
  have hrI2 : (r : Int) < (R.length : Int) := by omega
  have hclI : (cl : Int) + 1 ≤ (row.size : Int) := by omega
  have hclI2 : (cl : Int) + 1 ≤ (row2.size : Int) := by omega
  have hi2 := fun (w : World) (h : Rd w w.heap.size (some ⟨b3, o3, none⟩) (sv R)) => iGridPut_any (some ⟨b3, o3, none⟩) c2 R (k : Nat) ⟨#[cellAt g r cl]⟩ w h hRm hRs (by show (1 : Nat) ≤ maxLen; decide)
  rw [p1, p2] at hi2
  have HI2 := Lib.hid hi2
  have HG4 := Lib.hid hg4
  have HX4 := Lib.hid hx4
  have HPL := Lib.hid hpl
  generalize cellAt g r cl = old at *
  clear hi2 p1 p2 p3 hG hat hrr hcc hz0 hzr hrow2 hro2 hpl hpw g1 hlb hk hRs hgs HLAW gw1 gw2 hy4 hg4 hx4
  go_wp2_with fail
  go_quiet (fail)
  go_wp2_with fail
  have hW := below_drewN w4 nq w4.heap.size
  have hGd := Lib.hid (HG4.out.later hW)
  refine (HI2.out _ (HX4.out.later hW)).mono ?_
  rintro e w5 ⟨A5, c5, rfl, ho5, hb5⟩
  have hb45 := below_next hW hb5
  have HY5 := Lib.hid (Rd.of_own ho5)
  have HG5 := Lib.hid (hGd.out.later hb5)
  have hc5 := (hb45.cell (p := ⟨b3, o3 + r, none⟩) hbb3').trans x3
  have hbb5 := below_next hbb4 hb45
  clear hW hGd ho5 hb5 hb45 x3 HI2 HX4 HG4 hc0 hcr hext hbb4
  go_wp2
  go_quiet ((go_at_call 11; refine qdr (sameTexts_same A5 (some ⟨b, off, none⟩) c5 c1 g _ _ _ (HY5.out.below (below_drewN _ _ _)) (HG5.out.below (below_drewN _ _ _)) hgm)))
  go_wp2
  go_ret
  exact ⟨rfl, below_next hbb5 (below_drewN _ _ _)⟩
set_option maxRecDepth 100000 in
theorem lifted_FnPut (os : Os) (started : os.Started) (H : Type) (enc : TypeId × Value → H) :
    ReturnsInHanded {} Try.checked os 4 .any (Rows.fnPutSpec.pre6 enc Try.prog Try.f4 Rows.fnPutRow.domain false) (Rows.fnPutSpec.post enc Try.prog Try.f4 false true false false) := by
  refine returnsInHanded_of_change (C := Try.checked) own_knob started (by kernel_rfl) Try.func4
    (ChangeSpec.witness6 (enc := enc) (C := Try.checked) false ⟨#[], #[.slice none 0 0], []⟩ 8 (by kernel_rfl) (by kernel_rfl) (by kernel_rfl) (by kernel_rfl)) ?_
  intro W base args ds gs before hval0 hW hcnd _
  have hval : ∀ (j : Nat) t v, Try.f4.params[j]? = some t → args[j]? = some v → Value.okWide Try.prog W .any base t v := hval0
  have hW' := hW
  obtain ⟨p, q, hA0, hV, rfl, hfz, hnd⟩ := hW
  have hA : DataW.TrodAll enc Try.prog W 0 (fun _ => true) true Try.f4.params.toList args.toList ds p := hA0
  rw [Try.params4] at hA hval
  obtain ⟨v0, vs0, d0, ds0, p0, q0, hargs, rfl, rfl, h0, r0⟩ := trodAll_cons hA
  obtain ⟨rfl, rfl, rfl⟩ := trodAll_nil r0
  obtain rfl : args = #[v0] := by cases args; simp_all
  obtain ⟨rfl, rfl⟩ := trodVars_none hV
  clear hA0 hval0
  simp only [List.append_nil] at hW'
  have hlt : ∀ x ∈ (p0 ++ []), x.block < W.heap.size := fun x hx => hW'.lt x (by simpa using hx)
  have hlt0 : ∀ x ∈ p0, x.block < W.heap.size := fun x hx => hlt x (by simp [hx])
  have hag0 : ∀ (W' : World), Below W.heap.size W W' → DataW.Trod enc Try.prog W' 0 (fun b => decide (b < W.heap.size)) true 22 v0 d0 p0 :=
    fun W' hn => Below.trod laid_out rd_B (of_decide_eq_true (by kernel_rfl)) h0 hn hlt0
  obtain ⟨A0, c0, l0, rfl, hr0, hm0⟩ := open_B (hval 0 22 v0 rfl rfl) h0 hlt0
  refine (walk_FnPut W A0 c0 l0 hr0 hm0).mono fun e W' ⟨he, hb⟩ => ?_
  subst he
  exact ⟨_, rfl, _, _, _, [], (p0 ++ []), [], hW', (trodAll_cons_mk (shut_bool Try.underlying4 _) trodAll_mk0), (trodAll_cons_mk (hag0 W' hb) trodAll_mk0), rfl, hb.frame _, fun h => by cases h⟩

theorem over_FnPut : Rows.fnPutRow.holds Try.pinned (OpenSpec.ofChange Rows.fnPutSpec) :=
  OpenClaim.holds_of_wide 4 Try.f4 rfl rfl rfl rfl rfl rfl rfl ⟨rfl, rfl, rfl, rfl, rfl⟩ rfl rfl rfl rfl rfl (by kernel_rfl) Try.func4 (by kernel_rfl)
    (of_decide_eq_true (by kernel_rfl)) (by unfold Func.isWrapper; first | (rw [if_pos (by decide +kernel)]; kernel_rfl) | (rw [if_neg (by decide +kernel)]; exact ⟨rfl, rfl⟩))
    (fun os started H enc _ => lifted_FnPut os started H enc)

theorem holds_FnPut : Rows.FnPutSaid := over_FnPut
#print axioms holds_FnPut
end Go.Proofs.Ythjllnabjnjpmaa
