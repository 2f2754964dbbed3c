/- The law FnCells returns true for every code. No condition on the input. -/
import Derived.Test.YthjllnabjnjpmaaXG
import Derived.Test.YthjllnabjnjpmaaBQ
import Derived.Test.YthjllnabjnjpmaaEI
import Derived.Test.YthjllnabjnjpmaaPG
namespace Go.Proofs.Ythjllnabjnjpmaa
set_option maxRecDepth 100000
open Go.ChangeShapes Go.WideShapes Go.ChangeAt Go.RowKit

theorem cellsF_get (F : Fd) (s : St) (K i : Nat) (hi : i < (cellsF F s K).length) : (cellsF F s K)[i] = F.cellN (F.go s i) := by simp [cellsF]
/-- a round that is told -/
theorem cells_law {g : List ByteArray} {p q : Int} (h : cellsRB g p q = true) : gridB g = true ∧ ∃ (c d K : Nat) (s : St), p = (c : Nat) ∧ q = (d : Nat) ∧ (fld g).Ok s ∧ (fld g).Comes s K ∧ K ≤ 100 ∧ (fld g).cellN s = c ∧ cellsR g p q = cellsF (fld g) s K ∧ K ∈ (fld g).lens := by
  have h' := h
  unfold cellsRB at h'
  simp only [Bool.and_eq_true] at h'
  obtain ⟨⟨⟨hg, h1⟩, h2⟩, h3⟩ := h'
  obtain ⟨c, d, rfl, rfl, hc, hd⟩ := cells_nat h1 h2
  obtain ⟨hok, hce, _⟩ := st_cd hg hc hd
  have hr := Fd.roundB_iff.1 h3
  have hK := Fd.per_comes hr
  refine ⟨hg, c, d, _, (fld g).st (4 * c + d), rfl, rfl, hok, hK, per_100 hg hok hK, hce, cellsR_yes h, ?_⟩
  obtain ⟨x, hx1, hx2, hx3⟩ := Fd.lead_of hok hr
  have hxl := Nat.lt_of_le_of_lt hx1 (Fd.code_lt hok)
  have e := Fd.same_per (Fd.st_ok (grid_hm hg) hxl) hx2.1 hx3
  unfold Fd.lens
  exact List.mem_map.2 ⟨x, Fd.mem_leads.2 ⟨hxl, hx2⟩, e.symm⟩
/-- the next cell lies beside -/
theorem near_law {F : Fd} {s : St} {K : Nat} (hs : F.Ok s) (hK : F.Comes s K) (i : Nat) : ∃ r c r' c' x y : Nat, F.cellN (F.go s i) / F.m = r ∧ F.cellN (F.go s i) % F.m = c ∧ F.cellN (F.go s ((i + 1) % K)) / F.m = r' ∧ F.cellN (F.go s ((i + 1) % K)) % F.m = c' ∧ r < F.n ∧ r' < F.n ∧ c < F.m ∧ c' < F.m ∧
    max ((r : Int) - (r' : Int)) ((r' : Int) - (r : Int)) = (x : Int) ∧ max ((c : Int) - (c' : Int)) ((c' : Int) - (c : Int)) = (y : Int) ∧ x + y = 1 := by
  have h1 := Fd.comes_ok hs hK i
  have h2 := Fd.comes_ok hs hK ((i + 1) % K)
  obtain ⟨a1, a2⟩ := cell_div h1
  obtain ⟨b1, b2⟩ := cell_div h2
  have hst : F.go s ((i + 1) % K) = F.step (F.go s i) := by rw [← Fd.go_mod hK]; rfl
  have hn := Fd.step_near h1 (Fd.comes_on hK i)
  rw [← hst] at hn
  have k1 := h1.1
  have k2 := h1.2.1
  have k3 := h2.1
  have k4 := h2.2.1
  generalize F.go s ((i + 1) % K) = t at *
  generalize F.go s i = u at *
  rcases hn with ⟨e1, e2⟩ | ⟨e1, e2⟩
  · exact ⟨u.r, u.c, t.r, t.c, 0, 1, a1, a2, b1, b2, k1, k3, k2, k4, by omega, by omega, rfl⟩
  · exact ⟨u.r, u.c, t.r, t.c, 1, 0, a1, a2, b1, b2, k1, k3, k2, k4, by omega, by omega, rfl⟩

set_option maxHeartbeats 3200000 in
theorem walk_FnCells (w : World) (A : Option Addr) (c : Nat) (l : List UInt8) (hr : Rd w w.heap.size A (bv l)) (hm : l.length ≤ c ∧ l.length ≤ maxLen) :
    Calls Try.prog 7 #[.slice A l.length c] w fun e w' => e = .returned (.bool true) ∧ Below w.heap.size w w' := by
  by_cases hl : 1048576 < l.length
  · go_enter Try.func7, Try.ntmps7
    go_wp2
    go_ret
    exact ⟨rfl, Below.refl _ _⟩
  have hlb : decide ((1048576 : Int) < (l.length : Int)) = false := decide_eq_false (by omega)
  clear hl
  go_enter Try.func7, Try.ntmps7
  go_wp2_with fail
  refine (DrawRoundCells_any l A c _ hr hm).mono ?_
  rintro e w1 ⟨g, A1, c1, p, q, rfl, hg, hgz, ⟨hp, hq⟩, hb, hcp⟩
  obtain ⟨hlo, hhi, hsz⟩ := hgz
  have hgm : g.length ≤ maxLen := by unfold maxLen; omega
  have hgs : ∀ s ∈ g, s.size ≤ maxLen := fun s hs => by have := hsz s hs; unfold maxLen; omega
  clear hr hlb hcp hsz
  have hi := iRoundCells_any A1 c1 g p q w1 hg hgm hgs
  have hsS := fun (w : World) (h : Rd w w.heap.size A1 (sv g)) => sRoundCells_any A1 c1 g p q w h hgm hgs
  have hLm : (ni (cellsR g p q)).length ≤ maxLen := by have := len_cellsR g p q; unfold maxLen; omega
  have hlaw := fun h => cells_law (g := g) (p := p) (q := q) h
  obtain ⟨L, hL⟩ : ∃ L, cellsR g p q = L := ⟨_, rfl⟩
  obtain ⟨b, hbB⟩ : ∃ b, cellsRB g p q = b := ⟨_, rfl⟩
  rw [hL, hbB] at hi
  simp only [hL, hbB] at hsS hlaw
  rw [hL] at hLm
  have HI := Lib.hid hi
  have HS := Lib.hid hsS
  have HLAW := Lib.hid hlaw
  clear hi hsS hL hbB hlaw
  go_wp2_with fail
  refine HI.out.mono ?_
  rintro e w2 ⟨A2, c2, rfl, hown, hb2⟩
  have hg2 := hg.later hb2
  have hx2 := Rd.of_own hown
  have hbb2 := below_next hb hb2
  have HS2 := Lib.hid (HS.out _ hg2)
  clear hown HI HS hg hb hb2
  go_wp2_with fail
  refine HS2.out.mono ?_
  rintro e w3 ⟨A3, c3, rfl, hown, hb3⟩
  have hg3 := hg2.later hb3
  have hx3 := hx2.later hb3
  have hy3 := Rd.of_own hown
  have hbb3 := below_next hbb2 hb3
  clear hown HS2 hg2 hx2 hbb2 hb3
  have HT := Lib.hid (sameInts_same A2 A3 c2 c3 (ni L) w3 _ _ hx3 hy3 hLm)
  go_wp2_with fail
  refine HT.out.mono ?_
  rintro e w4 ⟨rfl, hd4⟩
  have hb4 := hd4.below w3.heap.size
  have hg4 := hg3.later hb4
  have hx4 := hx3.later hb4
  have hy4 := hy3.later hb4
  have hbb4 := below_next hbb3 hb4
  clear hb4 HT hg3 hx3 hy3 hbb3 hd4
  cases b
  · have HT := Lib.hid (sameInts_same A2 A3 c2 c3 (ni L) w4 _ _ hx4 hy4 hLm)
    go_wp2_with fail
    refine HT.out.mono ?_
    rintro e w5 ⟨rfl, hd5⟩
    have hbb5 := below_next hbb4 (hd5.below _)
    clear hd5
    go_wp2
    go_ret
    exact ⟨rfl, hbb5⟩
  obtain ⟨g1, cc, dd, K, s, rfl, rfl, hok, hK, hK100, hce, rfl, hmem⟩ := HLAW.out rfl
  have hKp := hK.pos
  have h1 := iRoundLengths_yes A1 c1 g w4 hg4 g1 hgm hgs
  have HNEAR := Lib.hid (fun i => near_law hok hK i)
  have HCN := Lib.hid (fun j => cell_25 g1 (Fd.comes_ok hok hK j))
  have hlens : (fld g).lens.length ≤ 100 := by unfold Fd.lens; rw [List.length_map]; exact leads_100 g1
  obtain ⟨gl1, gl2⟩ := grid_len g1
  obtain ⟨gw1, gw2⟩ := grid_width g1
  have hpos : 0 < g.length := by omega
  obtain ⟨b, off, rfl, hbb, _⟩ := hg4.at_ (sv_get g 0 hpos)
  have HCC := Lib.hid (fun (w : World) (k : Rd w w.heap.size (some ⟨b, off, none⟩) (sv g)) => show ∃ s0 : ByteArray, w.cell? ⟨b, off, none⟩ = some (.string s0) ∧ s0.size = width g from ⟨g[0], by have := k.cell (sv_get g 0 hpos); rw [Nat.add_zero] at this; exact this, grid_row g1 0 hpos⟩)
  have HW := Lib.hid (show (fld g).m = width g ∧ (fld g).n = g.length from ⟨rfl, rfl⟩)
  have HCE := Lib.hid (show (fld g).cellN ((fld g).go s 0) = cc from hce)
  have H1 := Lib.hid h1
  have HLL := Lib.hid (cellsF_length (fld g) s K)
  have HGET := Lib.hid (fun i hi => cellsF_get (fld g) s K i hi)
  clear h1 hok hK hce g1 hgs HLAW hy4
  generalize (fld g).lens = LN at *
  rw [ni_length, HLL.out]
  go_wp2_with fail
  refine H1.out.mono ?_
  rintro e w5 ⟨A5, c5, l', rfl, hpm, hr5, hb5⟩
  have hll := hpm.length_eq
  have hKm : K ∈ l' := hpm.mem_iff.2 hmem
  have HANY := Lib.hid (show (l'.any fun y => y == K) = true from List.any_eq_true.2 ⟨K, hKm, beq_self_eq_true _⟩)
  have HX := Lib.hid hr5
  have HO := Lib.hid (hx4.later hb5)
  have HG := Lib.hid (hg4.later hb5)
  have HBB := Lib.hid (below_next hbb4 hb5)
  have hl100 : l'.length ≤ 100 := by omega
  clear hr5 hb5 hx4 hg4 hbb4 H1 hpm hmem hKm hll hLm
  obtain ⟨s0, hc0, hz0⟩ := HCC.out _ HG.out
  have hz5 : s0.size ≤ 5 := by omega
  have hz1 : 1 ≤ s0.size := by omega
  have hnz : ¬ (s0.size = 0) := by omega
  have HZ := Lib.hid hz0
  clear hz0 gw1 gw2 HCC
  go_wp2
  go_loop [12, 13] (fun t i => ∃ (k : Nat), k ≤ l'.length ∧ i = .int .i64 k ∧ t = .bool ((l'.take k).any fun y => y == K)) (fun _ i => l'.length - (intOf i).toNat)
  case atStart => exact ⟨0, Nat.zero_le _, rfl, rfl⟩
  case round =>
    obtain ⟨i, hi, rfl, rfl⟩ := hrel
    by_cases hlt : i < l'.length
    · obtain ⟨b1, o1, hA1, hb1, x1⟩ := HX.out.at_ (niv_get l' i hlt)
      subst hA1
      have HS := Lib.hid (show ((l'.take (i + 1)).any fun y => y == K) = (((l'.take i).any fun y => y == K) || (l'[i] == K)) by rw [List.take_succ_eq_append_getElem hlt, List.any_append]; simp)
      obtain ⟨y, hy⟩ : ∃ y, l'[i] = y := ⟨_, rfl⟩
      rw [hy] at HS x1
      generalize ((l'.take i).any fun y => y == K) = sb at *
      clear hy
      by_cases he : y = K
      · have hbe := int_beq_yes he
        have HS2 := Lib.hid (show ((l'.take (i + 1)).any fun y => y == K) = true by rw [HS.out, he, beq_self_eq_true, Bool.or_true])
        clear he HS
        cases sb
        · go_wp2
          go_round
          case rel => exact ⟨i + 1, by omega, by go_num, by rw [HS2.out]⟩
          case measure => simp [intOf]; omega
        · go_wp2
          go_round
          case rel => exact ⟨i + 1, by omega, by go_num, by rw [HS2.out]⟩
          case measure => simp [intOf]; omega
      · have hbe := int_beq_no he
        have HS2 := Lib.hid (show ((l'.take (i + 1)).any fun y => y == K) = sb by rw [HS.out, beq_eq_false_iff_ne.2 he, Bool.or_false])
        clear he HS
        cases sb
        · go_wp2
          go_round
          case rel => exact ⟨i + 1, by omega, by go_num, by rw [HS2.out]⟩
          case measure => simp [intOf]; omega
        · go_wp2
          go_round
          case rel => exact ⟨i + 1, by omega, by go_num, by rw [HS2.out]⟩
          case measure => simp [intOf]; omega
    · have hfin : ((l'.take i).any fun y => y == K) = true := by rw [List.take_of_length_le (by omega)]; exact HANY.out
      rw [hfin]
      clear hfin
      go_wp2
      go_loopw [15] (fun i wr => ∃ (k : Nat), k ≤ K ∧ i = .int .i64 k ∧ Hid (Dr w5 wr)) (fun i _ => K - (intOf i).toNat)
      case atStart => exact ⟨0, Nat.zero_le _, rfl, Dr.refl _⟩
      case round =>
        obtain ⟨k, hk, rfl, HD⟩ := hrel
        have hor := HO.out.below (HD.out.below _)
        by_cases hkl : k < K
        · obtain ⟨r, cl, r', cl', x, y, a1, a2, b1', b2', hr1, hr2, hc1, hc2, hmx, hmy, hxy⟩ := HNEAR.out k
          have hjK : (k + 1) % K < K := Nat.mod_lt _ (by omega)
          have ga := niv_get (cellsF (fld g) s K) k (by rw [HLL.out]; exact hkl)
          have gb := niv_get (cellsF (fld g) s K) ((k + 1) % K) (by rw [HLL.out]; exact hjK)
          rw [HGET.out] at ga gb
          have ha25 := HCN.out k
          have hb25 := HCN.out ((k + 1) % K)
          have hmodI : ((k : Int) + 1) % (K : Int) = (((k + 1) % K : Nat) : Int) := by rw [Int.natCast_emod]; rfl
          obtain ⟨j, hj⟩ : ∃ j, (k + 1) % K = j := ⟨_, rfl⟩
          rw [hj] at hjK gb hb25 hmodI b1' b2'
          obtain ⟨b2, o2, hA2, hb2, x2⟩ := hor.at_ ga
          rw [hA2] at hor
          have x3 := hor.cell gb
          rw [HW.out.1, ← HZ.out] at a1 a2 b1' b2' hc1 hc2
          rw [HW.out.2] at hr1 hr2
          subst hA2
          obtain ⟨va, hva⟩ : ∃ va, (fld g).cellN ((fld g).go s k) = va := ⟨_, rfl⟩
          obtain ⟨vb, hvb⟩ : ∃ vb, (fld g).cellN ((fld g).go s j) = vb := ⟨_, rfl⟩
          rw [hva] at a1 a2 x2 ha25
          rw [hvb] at b1' b2' x3 hb25
          have d1 : (va : Int) / (s0.size : Int) = (r : Int) := by rw [← Int.natCast_ediv, a1]
          have d2 : (va : Int) % (s0.size : Int) = (cl : Int) := by rw [← Int.natCast_emod, a2]
          have d3 : (va : Int).tdiv (s0.size : Int) = (r : Int) := by rw [← d1]; rfl
          have d4 : (va : Int).tmod (s0.size : Int) = (cl : Int) := by rw [← d2]; rfl
          have e1 : (vb : Int) / (s0.size : Int) = (r' : Int) := by rw [← Int.natCast_ediv, b1']
          have e2 : (vb : Int) % (s0.size : Int) = (cl' : Int) := by rw [← Int.natCast_emod, b2']
          have e3 : (vb : Int).tdiv (s0.size : Int) = (r' : Int) := by rw [← e1]; rfl
          have e4 : (vb : Int).tmod (s0.size : Int) = (cl' : Int) := by rw [← e2]; rfl
          have hw1 : IntKind.i64.wrap (r : Int) = (r : Int) := IntWalk.i64_in _ (by omega)
          have hw2 : IntKind.i64.wrap (r' : Int) = (r' : Int) := IntWalk.i64_in _ (by omega)
          have hKz : ¬ (K = 0) := by omega
          have hmodT : ((k : Int) + 1).tmod (K : Int) = (j : Int) := by rw [← hmodI]; rfl
          have hsum : (((x : Int) + (y : Int)) != 1) = false := by
            have : (x : Int) + (y : Int) = 1 := by omega
            rw [this]; rfl
          have hx1 : (x : Int) ≤ 1 := by omega
          have hy1 : (y : Int) ≤ 1 := by omega
          have hjI : (j : Int) < (K : Int) := by omega
          clear hva hvb hj a1 a2 b1' b2' ga gb hor hxy
          go_wp2_with fail
          go_quiet (fail)
          revert nq
          intro nq0
          go_wp2_with fail
          go_quiet (fail)
          go_wp2
          go_roundw
          case rel => exact ⟨k + 1, by omega, by go_num, HD.out.drewN _⟩
          case measure => simp [intOf]; omega
        · have g0 := niv_get (cellsF (fld g) s K) 0 (by rw [HLL.out]; omega)
          rw [HGET.out, HCE.out] at g0
          obtain ⟨b2, o2, hA2, hb2, x2⟩ := hor.at_ g0
          rw [Nat.add_zero] at x2
          subst hA2
          have hcc : ((cc : Int) == (cc : Int)) = true := beq_self_eq_true _
          have hK0 : (0 : Int) < (K : Int) := by omega
          clear hor
          go_wp2
          go_ret
          exact ⟨rfl, below_next HBB.out (HD.out.below _)⟩
set_option maxRecDepth 100000 in
theorem lifted_FnCells (os : Os) (started : os.Started) (H : Type) (enc : TypeId × Value → H) :
    ReturnsInHanded {} Try.checked os 7 .any (Rows.fnCellsSpec.pre6 enc Try.prog Try.f7 Rows.fnCellsRow.domain false) (Rows.fnCellsSpec.post enc Try.prog Try.f7 false true false false) := by
  refine returnsInHanded_of_change (C := Try.checked) own_knob started (by kernel_rfl) Try.func7
    (ChangeSpec.witness6 (enc := enc) (C := Try.checked) false ⟨#[], #[.slice none 0 0], []⟩ 8 (by kernel_rfl) (by kernel_rfl) (by kernel_rfl) (by kernel_rfl)) ?_
  intro W base args ds gs before hval0 hW hcnd _
  have hval : ∀ (j : Nat) t v, Try.f7.params[j]? = some t → args[j]? = some v → Value.okWide Try.prog W .any base t v := hval0
  have hW' := hW
  obtain ⟨p, q, hA0, hV, rfl, hfz, hnd⟩ := hW
  have hA : DataW.TrodAll enc Try.prog W 0 (fun _ => true) true Try.f7.params.toList args.toList ds p := hA0
  rw [Try.params7] at hA hval
  obtain ⟨v0, vs0, d0, ds0, p0, q0, hargs, rfl, rfl, h0, r0⟩ := trodAll_cons hA
  obtain ⟨rfl, rfl, rfl⟩ := trodAll_nil r0
  obtain rfl : args = #[v0] := by cases args; simp_all
  obtain ⟨rfl, rfl⟩ := trodVars_none hV
  clear hA0 hval0
  simp only [List.append_nil] at hW'
  have hlt : ∀ x ∈ (p0 ++ []), x.block < W.heap.size := fun x hx => hW'.lt x (by simpa using hx)
  have hlt0 : ∀ x ∈ p0, x.block < W.heap.size := fun x hx => hlt x (by simp [hx])
  have hag0 : ∀ (W' : World), Below W.heap.size W W' → DataW.Trod enc Try.prog W' 0 (fun b => decide (b < W.heap.size)) true 22 v0 d0 p0 :=
    fun W' hn => Below.trod laid_out rd_B (of_decide_eq_true (by kernel_rfl)) h0 hn hlt0
  obtain ⟨A0, c0, l0, rfl, hr0, hm0⟩ := open_B (hval 0 22 v0 rfl rfl) h0 hlt0
  refine (walk_FnCells W A0 c0 l0 hr0 hm0).mono fun e W' ⟨he, hb⟩ => ?_
  subst he
  exact ⟨_, rfl, _, _, _, [], (p0 ++ []), [], hW', (trodAll_cons_mk (shut_bool Try.underlying4 _) trodAll_mk0), (trodAll_cons_mk (hag0 W' hb) trodAll_mk0), rfl, hb.frame _, fun h => by cases h⟩

theorem over_FnCells : Rows.fnCellsRow.holds Try.pinned (OpenSpec.ofChange Rows.fnCellsSpec) :=
  OpenClaim.holds_of_wide 7 Try.f7 rfl rfl rfl rfl rfl rfl rfl ⟨rfl, rfl, rfl, rfl, rfl⟩ rfl rfl rfl rfl rfl (by kernel_rfl) Try.func7 (by kernel_rfl)
    (of_decide_eq_true (by kernel_rfl)) (by unfold Func.isWrapper; first | (rw [if_pos (by decide +kernel)]; kernel_rfl) | (rw [if_neg (by decide +kernel)]; exact ⟨rfl, rfl⟩))
    (fun os started H enc _ => lifted_FnCells os started H enc)

theorem holds_FnCells : Rows.FnCellsSaid := over_FnCells
#print axioms holds_FnCells
end Go.Proofs.Ythjllnabjnjpmaa
