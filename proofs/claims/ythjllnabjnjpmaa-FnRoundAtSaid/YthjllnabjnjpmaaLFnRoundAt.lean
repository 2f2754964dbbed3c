/- The law FnRoundAt returns true for every code. No condition on the input. -/
import Derived.Test.YthjllnabjnjpmaaXG
import Derived.Test.YthjllnabjnjpmaaBQ
import Derived.Test.YthjllnabjnjpmaaBK
namespace Go.Proofs.Ythjllnabjnjpmaa
set_option maxRecDepth 100000
open Go.ChangeShapes Go.WideShapes Go.ChangeAt Go.RowKit

theorem perm_sum {l k : List Nat} (h : l.Perm k) : l.sum = k.sum := by
  induction h with
  | nil => rfl
  | cons x _ ih => rw [List.sum_cons, List.sum_cons, ih]
  | swap x y l => rw [List.sum_cons, List.sum_cons, List.sum_cons, List.sum_cons]; omega
  | trans _ _ h1 h2 => rw [h1, h2]
theorem sumB_small (M : Nat) (f : Nat → Nat) (h : ∀ c, c < M → f c ≤ 2) : ∀ k, k ≤ M → sumB k f ≤ 2 * k
  | 0, _ => Nat.zero_le _
  | k + 1, hk => by
    rw [sumB_succ]
    have h1 := sumB_small M f h k (by omega)
    have h2 := h k (by omega)
    omega

set_option maxHeartbeats 3200000 in
theorem walk_FnRoundAt (w : World) (A : Option Addr) (c : Nat) (l : List UInt8) (hr : Rd w w.heap.size A (bv l)) (hm : l.length ≤ c ∧ l.length ≤ maxLen) :
    Calls Try.prog 6 #[.slice A l.length c] w fun e w' => e = .returned (.bool true) ∧ Below w.heap.size w w' := by
  by_cases hl : 1048576 < l.length
  · go_enter Try.func6, Try.ntmps6
    go_wp2
    go_ret
    exact ⟨rfl, Below.refl _ _⟩
  have hlb : decide ((1048576 : Int) < (l.length : Int)) = false := decide_eq_false (by omega)
  clear hl
  go_enter Try.func6, Try.ntmps6
  go_wp2_with fail
  refine (DrawRoundAt_any l A c _ hr hm).mono ?_
  rintro e w1 ⟨g, A1, c1, p, rfl, hg, hgz, hp, hb, hcp⟩
  obtain ⟨hlo, hhi, hsz⟩ := hgz
  have hgm : g.length ≤ maxLen := by unfold maxLen; omega
  have hgs : ∀ s ∈ g, s.size ≤ maxLen := fun s hs => by have := hsz s hs; unfold maxLen; omega
  clear hr hlb hcp hsz
  have HI := Lib.hid (iRoundAt_any A1 c1 g p w1 hg hgm hgs)
  have HS := Lib.hid (fun (w : World) (h : Rd w w.heap.size A1 (sv g)) => sRoundAt_any A1 c1 g p w h hgm hgs)
  obtain ⟨K, hK⟩ : ∃ K, atA g p = K := ⟨_, rfl⟩
  have HK := Lib.hid hK
  obtain ⟨b, hbB⟩ : ∃ b, atB g p = b := ⟨_, rfl⟩
  have HB := Lib.hid hbB
  rw [hK, hbB] at HI
  simp only [hK, hbB] at HS
  clear hK hbB
  go_wp2_with fail
  refine HI.out.mono ?_
  rintro e w2 ⟨rfl, hb2⟩
  have hg2 := hg.later hb2
  have hbb2 := below_next hb hb2
  have HS2 := Lib.hid (HS.out _ hg2)
  clear HI HS hg hb hb2
  go_wp2_with fail
  refine HS2.out.mono ?_
  rintro e w3 ⟨rfl, hb3⟩
  have hg3 := hg2.later hb3
  have hbb3 := below_next hbb2 hb3
  clear HS2 hg2 hbb2 hb3
  have hkk : ((K : Int) == (K : Int)) = true := beq_self_eq_true _
  have hkn : ((K : Int) != (K : Int)) = false := by simp
  cases b
  · clear hkk
    go_wp2
    go_ret
    exact ⟨rfl, hbb3⟩
  obtain ⟨g1, k, rfl, hk⟩ := atB_nat HB.out
  have hK2 : K ≤ 2 := by
    rw [← HK.out, atA_yes HB.out]
    exact Fd.times_le (F := fld g) (grid_hm g1) (c := k) hk
  have hM := cells_25 g1
  have HT2 := Lib.hid (fun i (hi : i < cellsN g) => Fd.times_le (F := fld g) (grid_hm g1) (c := i) hi)
  have hsum := Fd.lens_sum (F := fld g) (grid_hm g1)
  rw [cells_fld] at hsum
  have hlens : (fld g).lens.length ≤ 100 := by unfold Fd.lens; rw [List.length_map]; exact leads_100 g1
  have h1 := iRoundLengths_yes A1 c1 g w3 hg3 g1 hgm hgs
  have h5 := fun (i : Nat) (hi : i < cellsN g) w k => iRoundAt_yes A1 c1 g i w k g1 hi hgm hgs
  obtain ⟨gl1, gl2⟩ := grid_len g1
  obtain ⟨gw1, gw2⟩ := grid_width g1
  have hpos : 0 < g.length := by omega
  obtain ⟨b, off, rfl, hbb, _⟩ := hg3.at_ (sv_get g 0 hpos)
  have HCC := Lib.hid (fun (w : World) (k : Rd w w.heap.size (some ⟨b, off, none⟩) (sv g)) => show ∃ s0 : ByteArray, w.cell? ⟨b, off, none⟩ = some (.string s0) ∧ s0.size = width g from ⟨g[0], by have := k.cell (sv_get g 0 hpos); rw [Nat.add_zero] at this; exact this, grid_row g1 0 hpos⟩)
  have HCE := Lib.hid (show (g.length : Int) * (width g : Int) = (cellsN g : Nat) by unfold cellsN; rw [Int.natCast_mul])
  have H1 := Lib.hid h1
  have H5 := Lib.hid h5
  have HSUM := Lib.hid hsum
  clear h1 h5 hsum g1 hgs hk
  generalize (fld g).times = T at *
  generalize (fld g).lens = LN at *
  generalize cellsN g = M at *
  go_wp2_with fail
  refine H1.out.mono ?_
  rintro e w4 ⟨A4, c4, l', rfl, hp, hr4, hb4⟩
  have HPS := Lib.hid (perm_sum hp)
  have hll := hp.length_eq
  have hll100 : l'.length ≤ 100 := by omega
  have HR := Lib.hid (hg3.later hb4)
  have HX := Lib.hid hr4
  have HBB := Lib.hid (below_next hbb3 hb4)
  clear H1 hr4 hb4 hg3 hbb3 hp hll
  have HSM := Lib.hid (sumB_small M T HT2.out)
  go_wp2
  go_loopw [11, 12] (fun t i wr => ∃ (k : Nat), k ≤ M ∧ i = .int .i64 k ∧ t = .int .i64 (sumB k T : Nat) ∧ Hid (Below w4.heap.size w4 wr)) (fun _ i _ => M - (intOf i).toNat)
  case atStart => exact ⟨0, Nat.zero_le _, rfl, rfl, Below.refl _ _⟩
  case round =>
    obtain ⟨j, hj, rfl, rfl, HW⟩ := hrel
    have hle := HSM.out j hj
    obtain ⟨s0, hc0, hz0⟩ := HCC.out _ (HR.out.later HW.out)
    have hz5 : s0.size ≤ 5 := by omega
    have hmul : (g.length : Int) * (s0.size : Int) = (M : Int) := by rw [hz0]; exact HCE.out
    have HMUL := Lib.hid hmul
    have hup : (g.length : Int) * (s0.size : Int) ≤ 25 := by omega
    have hup0 : 0 ≤ (g.length : Int) * (s0.size : Int) := by omega
    clear hz0
    by_cases hlt : j < M
    · have hlti : (j : Int) < (g.length : Int) * (s0.size : Int) := by omega
      have HA := Lib.hid (H5.out j hlt _ (HR.out.later HW.out))
      have HS := Lib.hid (sumB_succ j T)
      have ht2 := HT2.out j hlt
      obtain ⟨y, hy⟩ : ∃ y, T j = y := ⟨_, rfl⟩
      simp only [hy] at HS HA ht2
      clear hy hmul
      go_wp2_with fail
      refine HA.out.mono ?_
      rintro e w7 ⟨rfl, hb7⟩
      go_wp2
      go_roundw
      case rel => exact ⟨j + 1, by omega, by go_num, by rw [HS.out]; go_num, below_next HW.out hb7⟩
      case measure => simp [intOf]; omega
    · have hlti : ¬ ((j : Int) < (g.length : Int) * (s0.size : Int)) := by omega
      have hjM : j = M := by omega
      have hLS : l'.sum = sumB j T := by rw [HPS.out, HSUM.out, hjM]
      have hTT := total_any A4 c4 l' wr _ (HX.out.later HW.out) (by omega) (by omega)
      rw [hLS] at hTT
      have HTT := Lib.hid hTT
      clear hLS hTT hjM hmul
      have hfin : ((sumB j T : Int) == (sumB j T : Int)) = true := beq_self_eq_true _
      have hk0 : (0 : Int) ≤ (K : Int) := by omega
      have hk2 : (K : Int) ≤ 2 := by omega
      go_wp2_with fail
      refine HTT.out.mono ?_
      rintro e w' ⟨rfl, rfl⟩
      go_wp2
      go_ret
      exact ⟨rfl, below_next HBB.out HW.out⟩
set_option maxRecDepth 100000 in
theorem lifted_FnRoundAt (os : Os) (started : os.Started) (H : Type) (enc : TypeId × Value → H) :
    ReturnsInHanded {} Try.checked os 6 .any (Rows.fnRoundAtSpec.pre6 enc Try.prog Try.f6 Rows.fnRoundAtRow.domain false) (Rows.fnRoundAtSpec.post enc Try.prog Try.f6 false true false false) := by
  refine returnsInHanded_of_change (C := Try.checked) own_knob started (by kernel_rfl) Try.func6
    (ChangeSpec.witness6 (enc := enc) (C := Try.checked) false ⟨#[], #[.slice none 0 0], []⟩ 8 (by kernel_rfl) (by kernel_rfl) (by kernel_rfl) (by kernel_rfl)) ?_
  intro W base args ds gs before hval0 hW hcnd _
  have hval : ∀ (j : Nat) t v, Try.f6.params[j]? = some t → args[j]? = some v → Value.okWide Try.prog W .any base t v := hval0
  have hW' := hW
  obtain ⟨p, q, hA0, hV, rfl, hfz, hnd⟩ := hW
  have hA : DataW.TrodAll enc Try.prog W 0 (fun _ => true) true Try.f6.params.toList args.toList ds p := hA0
  rw [Try.params6] at hA hval
  obtain ⟨v0, vs0, d0, ds0, p0, q0, hargs, rfl, rfl, h0, r0⟩ := trodAll_cons hA
  obtain ⟨rfl, rfl, rfl⟩ := trodAll_nil r0
  obtain rfl : args = #[v0] := by cases args; simp_all
  obtain ⟨rfl, rfl⟩ := trodVars_none hV
  clear hA0 hval0
  simp only [List.append_nil] at hW'
  have hlt : ∀ x ∈ (p0 ++ []), x.block < W.heap.size := fun x hx => hW'.lt x (by simpa using hx)
  have hlt0 : ∀ x ∈ p0, x.block < W.heap.size := fun x hx => hlt x (by simp [hx])
  have hag0 : ∀ (W' : World), Below W.heap.size W W' → DataW.Trod enc Try.prog W' 0 (fun b => decide (b < W.heap.size)) true 22 v0 d0 p0 :=
    fun W' hn => Below.trod laid_out rd_B (of_decide_eq_true (by kernel_rfl)) h0 hn hlt0
  obtain ⟨A0, c0, l0, rfl, hr0, hm0⟩ := open_B (hval 0 22 v0 rfl rfl) h0 hlt0
  refine (walk_FnRoundAt W A0 c0 l0 hr0 hm0).mono fun e W' ⟨he, hb⟩ => ?_
  subst he
  exact ⟨_, rfl, _, _, _, [], (p0 ++ []), [], hW', (trodAll_cons_mk (shut_bool Try.underlying4 _) trodAll_mk0), (trodAll_cons_mk (hag0 W' hb) trodAll_mk0), rfl, hb.frame _, fun h => by cases h⟩

theorem over_FnRoundAt : Rows.fnRoundAtRow.holds Try.pinned (OpenSpec.ofChange Rows.fnRoundAtSpec) :=
  OpenClaim.holds_of_wide 6 Try.f6 rfl rfl rfl rfl rfl rfl rfl ⟨rfl, rfl, rfl, rfl, rfl⟩ rfl rfl rfl rfl rfl (by kernel_rfl) Try.func6 (by kernel_rfl)
    (of_decide_eq_true (by kernel_rfl)) (by unfold Func.isWrapper; first | (rw [if_pos (by decide +kernel)]; kernel_rfl) | (rw [if_neg (by decide +kernel)]; exact ⟨rfl, rfl⟩))
    (fun os started H enc _ => lifted_FnRoundAt os started H enc)

theorem holds_FnRoundAt : Rows.FnRoundAtSaid := over_FnRoundAt
#print axioms holds_FnRoundAt
end Go.Proofs.Ythjllnabjnjpmaa
