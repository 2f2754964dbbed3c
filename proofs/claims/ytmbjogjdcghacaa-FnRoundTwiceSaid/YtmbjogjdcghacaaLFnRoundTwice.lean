/- The law FnRoundTwice returns true for every code. No condition on the input. -/
import Derived.Test.YtmbjogjdcghacaaXF
import Derived.Test.YtmbjogjdcghacaaBT
import Derived.Test.YtmbjogjdcghacaaYD
import Derived.Test.YtmbjogjdcghacaaZ
namespace Go.Proofs.Ytmbjogjdcghacaa
open Go.ChangeShapes Go.WideShapes Go.ChangeAt Go.RowKit

set_option maxHeartbeats 3200000 in
theorem walk_FnRoundTwice (w : World) (A : Option Addr) (c : Nat) (l : List UInt8) (hr : Rd w w.heap.size A (bv l)) (hm : l.length ≤ c ∧ l.length ≤ maxLen) :
    Calls Try.prog 12 #[.slice A l.length c] w fun e w' => e = .returned (.bool true) ∧ Below w.heap.size w w' := by
  by_cases hl : 1048576 < l.length
  · go_enter Try.func12, Try.ntmps12
    go_wp2
    go_ret
    exact ⟨rfl, Below.refl _ _⟩
  have hlb : decide ((1048576 : Int) < (l.length : Int)) = false := decide_eq_false (by omega)
  clear hl
  go_enter Try.func12, Try.ntmps12
  go_wp2_with fail
  refine (DrawRoundTwice_any l A c _ hr hm).mono ?_
  rintro e w1 ⟨g, A1, c1, rfl, hg, hlo, hhi, hsz, hb, hcp⟩
  have hgm : g.length ≤ maxLen := by unfold maxLen; omega
  have hgs : ∀ s ∈ g, s.size ≤ maxLen := fun s hs => by have := hsz s hs; unfold maxLen; omega
  clear hr hlb hcp
  have HI := Lib.hid (iRoundTwice_any A1 c1 g w1 hg hgm hgs)
  have HS := Lib.hid (fun (w : World) (h : Rd w w.heap.size A1 (sv g)) => sRoundTwice_any A1 c1 g w h hgm hgs)
  obtain ⟨K, hK⟩ : ∃ K, twosA g = K := ⟨_, rfl⟩
  have HK := Lib.hid hK
  obtain ⟨b, hbB⟩ : ∃ b, gridB g = b := ⟨_, rfl⟩
  have HB := Lib.hid hbB
  rw [hK, hbB] at HI
  simp only [hK, hbB] at HS
  clear hK hbB
  go_wp2_with fail
  refine HI.out.mono ?_
  rintro e w2 ⟨rfl, hb2⟩
  have hg2 := hg.later hb2
  have hbb2 := below_next hb hb2
  have HS2 := Lib.hid (HS.out _ hg2)
  clear HI HS hg hb hb2
  go_wp2_with fail
  refine HS2.out.mono ?_
  rintro e w3 ⟨rfl, hb3⟩
  have hg3 := hg2.later hb3
  have hbb3 := below_next hbb2 hb3
  clear HS2 hg2 hbb2 hb3
  have hkk : ((K : Int) == (K : Int)) = true := beq_self_eq_true _
  have hkn : ((K : Int) != (K : Int)) = false := by simp
  cases b
  · clear hkk
    go_wp2
    go_ret
    exact ⟨rfl, hbb3⟩
  have g1 := HB.out
  have g2 := grid_turn g1
  have k1 : twosA (gTurn g) = K := by rw [← HK.out]; unfold twosA; rw [if_pos g1, if_pos g2, twos_turn g1]
  have h1 := iGridTurn_yes A1 c1 g w3 g1 hg3
  have h3 := fun A c w k => iRoundTwice_any A c (gTurn g) w k (small_of (.inr g2)).1 (small_of (.inr g2)).2
  simp only [k1, g2] at h3
  have h5 := fun (i : Nat) (hi : i < cellsN g) w k => iRoundAt_yes A1 c1 g i w k g1 hi hgm hgs
  have hK : K = cntB (cellsN g) fun c => (fld g).times c == 2 := by rw [← HK.out]; unfold twosA; rw [if_pos g1]; rfl
  have hM := cells_25 g1
  have HT2 := Lib.hid (fun i (hi : i < cellsN g) => Fd.times_le (F := fld g) (grid_hm g1) (c := i) hi)
  obtain ⟨gl1, gl2⟩ := grid_len HB.out
  obtain ⟨gw1, gw2⟩ := grid_width HB.out
  have hpos : 0 < g.length := by omega
  obtain ⟨b, off, rfl, hbb, _⟩ := hg3.at_ (sv_get g 0 hpos)
  have HCC := Lib.hid (fun (w : World) (k : Rd w w.heap.size (some ⟨b, off, none⟩) (sv g)) => show ∃ s0 : ByteArray, w.cell? ⟨b, off, none⟩ = some (.string s0) ∧ s0.size = width g from ⟨g[0], by have := k.cell (sv_get g 0 hpos); rw [Nat.add_zero] at this; exact this, grid_row HB.out 0 hpos⟩)
  have HCE := Lib.hid (show (g.length : Int) * (width g : Int) = (cellsN g : Nat) by unfold cellsN; rw [Int.natCast_mul])
  have H1 := Lib.hid h1
  have H3 := Lib.hid h3
  have H5 := Lib.hid h5
  have HKC := Lib.hid hK
  clear h1 h3 h5 k1 g1 g2 hgs hK
  generalize (fld g).times = T at *
  generalize cellsN g = M at *
  go_wp2_with fail
  refine H1.out.mono ?_
  rintro e w5 ⟨A5, c5, rfl, hown, hb5⟩
  have hg5 := hg3.later hb5
  have hx5 := Rd.of_own hown
  have hbb5 := below_next hbb3 hb5
  have H3 := Lib.hid (H3.out _ c5 _ hx5)
  clear hown H1 hb5 hg3 hbb3
  go_wp2_with fail
  refine H3.out.mono ?_
  rintro e w6 ⟨rfl, hb6⟩
  have HR := Lib.hid (hg5.later hb6)
  have HBB := Lib.hid (below_next hbb5 hb6)
  clear H3 hb6 hg5 hx5 hbb5
  go_wp2
  go_loopw [12, 13] (fun t i wr => ∃ (k : Nat), k ≤ M ∧ i = .int .i64 k ∧ t = .int .i64 (cntB k (fun c => T c == 2) : Nat) ∧ Hid (Below w6.heap.size w6 wr)) (fun _ i _ => M - (intOf i).toNat)
  case atStart => exact ⟨0, Nat.zero_le _, rfl, rfl, Below.refl _ _⟩
  case round =>
    obtain ⟨k, hk, rfl, rfl, HW⟩ := hrel
    have hle := cntB_le k fun c => T c == 2
    obtain ⟨s0, hc0, hz0⟩ := HCC.out _ (HR.out.later HW.out)
    have hz5 : s0.size ≤ 5 := by omega
    have hmul : (g.length : Int) * (s0.size : Int) = (M : Int) := by rw [hz0]; exact HCE.out
    clear hz0
    by_cases hlt : k < M
    · have hlti : (k : Int) < (g.length : Int) * (s0.size : Int) := by omega
      have HA := Lib.hid (H5.out k hlt _ (HR.out.later HW.out))
      have HS := Lib.hid (cntB_succ k fun c => T c == 2)
      have ht2 := HT2.out k hlt
      obtain ⟨y, hy⟩ : ∃ y, T k = y := ⟨_, rfl⟩
      simp only [hy] at HS HA ht2
      clear hy
      by_cases he : y = 2
      · have hb2 := int_beq_yes he
        have HS2 := Lib.hid (show cntB (k + 1) (fun c => T c == 2) = cntB k (fun c => T c == 2) + 1 by rw [HS.out, he]; rfl)
        clear he HS
        go_wp2_with fail
        refine HA.out.mono ?_
        rintro e w7 ⟨rfl, hb7⟩
        go_wp2
        go_roundw
        case rel => exact ⟨k + 1, by omega, by go_num, by rw [HS2.out]; go_num, below_next HW.out hb7⟩
        case measure => simp [intOf]; omega
      · have hb2 := int_beq_no he
        have HS2 := Lib.hid (show cntB (k + 1) (fun c => T c == 2) = cntB k (fun c => T c == 2) by rw [HS.out, if_neg (by simpa using he)]; rfl)
        clear he HS
        go_wp2_with fail
        refine HA.out.mono ?_
        rintro e w7 ⟨rfl, hb7⟩
        go_wp2
        go_roundw
        case rel => exact ⟨k + 1, by omega, by go_num, by rw [HS2.out], below_next HW.out hb7⟩
        case measure => simp [intOf]; omega
    · have hlti : ¬ ((k : Int) < (g.length : Int) * (s0.size : Int)) := by omega
      have hkm : k = M := by omega
      have hfin : ((cntB k (fun c => T c == 2) : Int) == (K : Int)) = true := by rw [HKC.out, hkm]; exact beq_self_eq_true _
      clear hkm
      go_wp2
      go_ret
      exact ⟨rfl, below_next HBB.out HW.out⟩
set_option maxRecDepth 100000 in
theorem lifted_FnRoundTwice (os : Os) (started : os.Started) (H : Type) (enc : TypeId × Value → H) :
    ReturnsInHanded {} Try.checked os 12 .any (Rows.fnRoundTwiceSpec.pre6 enc Try.prog Try.f12 Rows.fnRoundTwiceRow.domain false) (Rows.fnRoundTwiceSpec.post enc Try.prog Try.f12 false true false false) := by
  refine returnsInHanded_of_change (C := Try.checked) own_knob started (by kernel_rfl) Try.func12
    (ChangeSpec.witness6 (enc := enc) (C := Try.checked) false ⟨#[], #[.slice none 0 0], []⟩ 8 (by kernel_rfl) (by kernel_rfl) (by kernel_rfl) (by kernel_rfl)) ?_
  intro W base args ds gs before hval0 hW hcnd _
  have hval : ∀ (j : Nat) t v, Try.f12.params[j]? = some t → args[j]? = some v → Value.okWide Try.prog W .any base t v := hval0
  have hW' := hW
  obtain ⟨p, q, hA0, hV, rfl, hfz, hnd⟩ := hW
  have hA : DataW.TrodAll enc Try.prog W 0 (fun _ => true) true Try.f12.params.toList args.toList ds p := hA0
  rw [Try.params12] at hA hval
  obtain ⟨v0, vs0, d0, ds0, p0, q0, hargs, rfl, rfl, h0, r0⟩ := trodAll_cons hA
  obtain ⟨rfl, rfl, rfl⟩ := trodAll_nil r0
  obtain rfl : args = #[v0] := by cases args; simp_all
  obtain ⟨rfl, rfl⟩ := trodVars_none hV
  clear hA0 hval0
  simp only [List.append_nil] at hW'
  have hlt : ∀ x ∈ (p0 ++ []), x.block < W.heap.size := fun x hx => hW'.lt x (by simpa using hx)
  have hlt0 : ∀ x ∈ p0, x.block < W.heap.size := fun x hx => hlt x (by simp [hx])
  have hag0 : ∀ (W' : World), Below W.heap.size W W' → DataW.Trod enc Try.prog W' 0 (fun b => decide (b < W.heap.size)) true 33 v0 d0 p0 :=
    fun W' hn => Below.trod laid_out rd_B (of_decide_eq_true (by kernel_rfl)) h0 hn hlt0
  obtain ⟨A0, c0, l0, rfl, hr0, hm0⟩ := open_B (hval 0 33 v0 rfl rfl) h0 hlt0
  refine (walk_FnRoundTwice W A0 c0 l0 hr0 hm0).mono fun e W' ⟨he, hb⟩ => ?_
  subst he
  exact ⟨_, rfl, _, _, _, [], (p0 ++ []), [], hW', (trodAll_cons_mk (shut_bool Try.underlying4 _) trodAll_mk0), (trodAll_cons_mk (hag0 W' hb) trodAll_mk0), rfl, hb.frame _, fun h => by cases h⟩

theorem over_FnRoundTwice : Rows.fnRoundTwiceRow.holds Try.pinned (OpenSpec.ofChange Rows.fnRoundTwiceSpec) :=
  OpenClaim.holds_of_wide 12 Try.f12 rfl rfl rfl rfl rfl rfl rfl ⟨rfl, rfl, rfl, rfl, rfl⟩ rfl rfl rfl rfl rfl (by kernel_rfl) Try.func12 (by kernel_rfl)
    (of_decide_eq_true (by kernel_rfl)) (by unfold Func.isWrapper; first | (rw [if_pos (by decide +kernel)]; kernel_rfl) | (rw [if_neg (by decide +kernel)]; exact ⟨rfl, rfl⟩))
    (fun os started H enc _ => lifted_FnRoundTwice os started H enc)

theorem holds_FnRoundTwice : Rows.FnRoundTwiceSaid := over_FnRoundTwice
#print axioms holds_FnRoundTwice
end Go.Proofs.Ytmbjogjdcghacaa
