/- The law FnPaths returns true for every code. No condition on the input. -/
import Derived.Test.YtmbjogjdcghacaaXF
import Derived.Test.YtmbjogjdcghacaaBO
namespace Go.Proofs.Ytmbjogjdcghacaa
open Go.ChangeShapes Go.WideShapes Go.ChangeAt Go.RowKit

set_option maxHeartbeats 1600000 in
theorem walk_FnPaths (w : World) (A : Option Addr) (c : Nat) (l : List UInt8) (hr : Rd w w.heap.size A (bv l)) (hm : l.length ≤ c ∧ l.length ≤ maxLen) :
    Calls Try.prog 11 #[.slice A l.length c] w fun e w' => e = .returned (.bool true) ∧ Below w.heap.size w w' := by
  by_cases hl : 1048576 < l.length
  · go_enter Try.func11, Try.ntmps11
    go_wp2
    go_ret
    exact ⟨rfl, Below.refl _ _⟩
  have hlb : decide ((1048576 : Int) < (l.length : Int)) = false := decide_eq_false (by omega)
  clear hl
  go_enter Try.func11, Try.ntmps11
  go_wp2_with fail
  refine (DrawRoundPaths_any l A c _ hr hm).mono ?_
  rintro e w1 ⟨g, A1, c1, rfl, hg, hlo, hhi, hsz, hb, hcp⟩
  have hgm : g.length ≤ maxLen := by unfold maxLen; omega
  have hgs : ∀ s ∈ g, s.size ≤ maxLen := fun s hs => by have := hsz s hs; unfold maxLen; omega
  clear hr hlb hcp
  have HI := Lib.hid (iRoundPaths_any A1 c1 g w1 hg hgm hgs)
  have HS := Lib.hid (fun (w : World) (h : Rd w w.heap.size A1 (sv g)) => sRoundPaths_any A1 c1 g w h hgm hgs)
  obtain ⟨K, hK⟩ : ∃ K, pathsA g = K := ⟨_, rfl⟩
  have HK := Lib.hid hK
  obtain ⟨b, hbB⟩ : ∃ b, gridB g = b := ⟨_, rfl⟩
  have HB := Lib.hid hbB
  rw [hK, hbB] at HI
  simp only [hK, hbB] at HS
  clear hK hbB
  go_wp2_with fail
  refine HI.out.mono ?_
  rintro e w2 ⟨rfl, hb2⟩
  have hg2 := hg.later hb2
  have hbb2 := below_next hb hb2
  have HS2 := Lib.hid (HS.out _ hg2)
  clear HI HS hg hb hb2
  go_wp2_with fail
  refine HS2.out.mono ?_
  rintro e w3 ⟨rfl, hb3⟩
  have hg3 := hg2.later hb3
  have hbb3 := below_next hbb2 hb3
  clear HS2 hg2 hbb2 hb3
  have hkk : ((K : Int) == (K : Int)) = true := beq_self_eq_true _
  have hkn : ((K : Int) != (K : Int)) = false := by simp
  cases b
  · clear hkk
    go_wp2
    go_ret
    exact ⟨rfl, hbb3⟩
  have h1 := iRoundMany_any A1 c1 g w3 hg3 hgm hgs
  rw [HB.out] at h1
  have hk := HK.out
  unfold pathsA at hk
  rw [if_pos HB.out] at hk
  have hr1 : roundsA g = (fld g).leads.length := by unfold roundsA; rw [if_pos HB.out]
  rw [← hr1] at hk
  have hrl := roundsA_le g
  generalize roundsA g = R at *
  obtain ⟨gl1, gl2⟩ := grid_len HB.out
  obtain ⟨gw1, gw2⟩ := grid_width HB.out
  have hpos : 0 < g.length := by omega
  obtain ⟨b, off, rfl, hbb, _⟩ := hg3.at_ (sv_get g 0 hpos)
  have HCC := Lib.hid (fun (w : World) (k : Rd w w.heap.size (some ⟨b, off, none⟩) (sv g)) => show ∃ s0 : ByteArray, w.cell? ⟨b, off, none⟩ = some (.string s0) ∧ s0.size = width g from ⟨g[0], by have := k.cell (sv_get g 0 hpos); rw [Nat.add_zero] at this; exact this, grid_row HB.out 0 hpos⟩)
  have HKS := Lib.hid hk
  have H1 := Lib.hid h1
  clear h1 hk hr1 hgs
  go_wp2_with fail
  refine H1.out.mono ?_
  rintro e w4 ⟨rfl, hb4⟩
  obtain ⟨s0, hc0, hz0⟩ := HCC.out _ (hg3.later hb4)
  have hbb4 := below_next hbb3 hb4
  have hfin : ((K : Int) == (R : Int) + (g.length : Int) + (s0.size : Int)) = true := by
    rw [beq_iff_eq, hz0]; have := HKS.out; omega
  have hz5 : s0.size ≤ 5 := by omega
  clear H1 hg3 hbb3 hb4 hz0
  go_wp2
  go_ret
  exact ⟨rfl, hbb4⟩
set_option maxRecDepth 100000 in
theorem lifted_FnPaths (os : Os) (started : os.Started) (H : Type) (enc : TypeId × Value → H) :
    ReturnsInHanded {} Try.checked os 11 .any (Rows.fnPathsSpec.pre6 enc Try.prog Try.f11 Rows.fnPathsRow.domain false) (Rows.fnPathsSpec.post enc Try.prog Try.f11 false true false false) := by
  refine returnsInHanded_of_change (C := Try.checked) own_knob started (by kernel_rfl) Try.func11
    (ChangeSpec.witness6 (enc := enc) (C := Try.checked) false ⟨#[], #[.slice none 0 0], []⟩ 8 (by kernel_rfl) (by kernel_rfl) (by kernel_rfl) (by kernel_rfl)) ?_
  intro W base args ds gs before hval0 hW hcnd _
  have hval : ∀ (j : Nat) t v, Try.f11.params[j]? = some t → args[j]? = some v → Value.okWide Try.prog W .any base t v := hval0
  have hW' := hW
  obtain ⟨p, q, hA0, hV, rfl, hfz, hnd⟩ := hW
  have hA : DataW.TrodAll enc Try.prog W 0 (fun _ => true) true Try.f11.params.toList args.toList ds p := hA0
  rw [Try.params11] at hA hval
  obtain ⟨v0, vs0, d0, ds0, p0, q0, hargs, rfl, rfl, h0, r0⟩ := trodAll_cons hA
  obtain ⟨rfl, rfl, rfl⟩ := trodAll_nil r0
  obtain rfl : args = #[v0] := by cases args; simp_all
  obtain ⟨rfl, rfl⟩ := trodVars_none hV
  clear hA0 hval0
  simp only [List.append_nil] at hW'
  have hlt : ∀ x ∈ (p0 ++ []), x.block < W.heap.size := fun x hx => hW'.lt x (by simpa using hx)
  have hlt0 : ∀ x ∈ p0, x.block < W.heap.size := fun x hx => hlt x (by simp [hx])
  have hag0 : ∀ (W' : World), Below W.heap.size W W' → DataW.Trod enc Try.prog W' 0 (fun b => decide (b < W.heap.size)) true 33 v0 d0 p0 :=
    fun W' hn => Below.trod laid_out rd_B (of_decide_eq_true (by kernel_rfl)) h0 hn hlt0
  obtain ⟨A0, c0, l0, rfl, hr0, hm0⟩ := open_B (hval 0 33 v0 rfl rfl) h0 hlt0
  refine (walk_FnPaths W A0 c0 l0 hr0 hm0).mono fun e W' ⟨he, hb⟩ => ?_
  subst he
  exact ⟨_, rfl, _, _, _, [], (p0 ++ []), [], hW', (trodAll_cons_mk (shut_bool Try.underlying4 _) trodAll_mk0), (trodAll_cons_mk (hag0 W' hb) trodAll_mk0), rfl, hb.frame _, fun h => by cases h⟩

theorem over_FnPaths : Rows.fnPathsRow.holds Try.pinned (OpenSpec.ofChange Rows.fnPathsSpec) :=
  OpenClaim.holds_of_wide 11 Try.f11 rfl rfl rfl rfl rfl rfl rfl ⟨rfl, rfl, rfl, rfl, rfl⟩ rfl rfl rfl rfl rfl (by kernel_rfl) Try.func11 (by kernel_rfl)
    (of_decide_eq_true (by kernel_rfl)) (by unfold Func.isWrapper; first | (rw [if_pos (by decide +kernel)]; kernel_rfl) | (rw [if_neg (by decide +kernel)]; exact ⟨rfl, rfl⟩))
    (fun os started H enc _ => lifted_FnPaths os started H enc)

theorem holds_FnPaths : Rows.FnPathsSaid := over_FnPaths
#print axioms holds_FnPaths
end Go.Proofs.Ytmbjogjdcghacaa
