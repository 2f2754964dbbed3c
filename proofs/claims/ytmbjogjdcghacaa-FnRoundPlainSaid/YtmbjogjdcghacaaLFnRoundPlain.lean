/- The law FnRoundPlain returns true for every code. No condition on the input. -/
import Derived.Test.YtmbjogjdcghacaaXF
import Derived.Test.YtmbjogjdcghacaaBO
import Derived.Test.YtmbjogjdcghacaaPG
namespace Go.Proofs.Ytmbjogjdcghacaa
open Go.ChangeShapes Go.WideShapes Go.ChangeAt Go.RowKit

set_option maxHeartbeats 1600000 in
theorem walk_FnRoundPlain (w : World) (A : Option Addr) (c : Nat) (l : List UInt8) (hr : Rd w w.heap.size A (bv l)) (hm : l.length ≤ c ∧ l.length ≤ maxLen) :
    Calls Try.prog 10 #[.slice A l.length c] w fun e w' => e = .returned (.bool true) ∧ Below w.heap.size w w' := by
  by_cases hl : 1048576 < l.length
  · go_enter Try.func10, Try.ntmps10
    go_wp2
    go_ret
    exact ⟨rfl, Below.refl _ _⟩
  have hlb : decide ((1048576 : Int) < (l.length : Int)) = false := decide_eq_false (by omega)
  clear hl
  go_enter Try.func10, Try.ntmps10
  go_wp2_with fail
  refine (DrawRoundMany_any l A c _ hr hm).mono ?_
  rintro e w1 ⟨g, A1, c1, rfl, hg, hlo, hhi, hsz, hb, hcp⟩
  have hgm : g.length ≤ maxLen := by unfold maxLen; omega
  have hgs : ∀ s ∈ g, s.size ≤ maxLen := fun s hs => by have := hsz s hs; unfold maxLen; omega
  clear hr hlb hcp
  have HI := Lib.hid (iRoundMany_any A1 c1 g w1 hg hgm hgs)
  have HS := Lib.hid (fun (w : World) (h : Rd w w.heap.size A1 (sv g)) => sRoundMany_any A1 c1 g w h hgm hgs)
  obtain ⟨K, hK⟩ : ∃ K, roundsA g = K := ⟨_, rfl⟩
  have HK := Lib.hid hK
  obtain ⟨b, hbB⟩ : ∃ b, gridB g = b := ⟨_, rfl⟩
  have HB := Lib.hid hbB
  rw [hK, hbB] at HI
  simp only [hK, hbB] at HS
  clear hK hbB
  go_wp2_with fail
  refine HI.out.mono ?_
  rintro e w2 ⟨rfl, hb2⟩
  have hg2 := hg.later hb2
  have hbb2 := below_next hb hb2
  have HS2 := Lib.hid (HS.out _ hg2)
  clear HI HS hg hb hb2
  go_wp2_with fail
  refine HS2.out.mono ?_
  rintro e w3 ⟨rfl, hb3⟩
  have hg3 := hg2.later hb3
  have hbb3 := below_next hbb2 hb3
  clear HS2 hg2 hbb2 hb3
  have hkk : ((K : Int) == (K : Int)) = true := beq_self_eq_true _
  have hkn : ((K : Int) != (K : Int)) = false := by simp
  cases b
  · clear hkk
    go_wp2
    go_ret
    exact ⟨rfl, hbb3⟩
  have hr1 : K = (fld g).leads.length := by rw [← HK.out]; unfold roundsA; rw [if_pos HB.out]
  have hfew := Fd.leads_few (F := fld g) (grid_hm HB.out)
  have hpl := fun h => Fd.plain_leads (F := fld g) (grid_hm HB.out) h
  rw [← hr1] at hfew
  have hpl2 : g.length = 1 ∨ width g = 1 → K = 0 := fun h => by rw [hr1, hpl h]; rfl
  have hfew2 : 2 * (K : Int) ≤ (g.length : Int) * (width g : Int) := by
    rw [← Int.natCast_mul]
    have : 2 * K ≤ g.length * width g := hfew
    omega
  obtain ⟨gl1, gl2⟩ := grid_len HB.out
  obtain ⟨gw1, gw2⟩ := grid_width HB.out
  have hpos : 0 < g.length := by omega
  obtain ⟨b, off, rfl, hbb, _⟩ := hg3.at_ (sv_get g 0 hpos)
  have HCC := Lib.hid (fun (w : World) (k : Rd w w.heap.size (some ⟨b, off, none⟩) (sv g)) => show ∃ s0 : ByteArray, w.cell? ⟨b, off, none⟩ = some (.string s0) ∧ s0.size = width g from ⟨g[0], by have := k.cell (sv_get g 0 hpos); rw [Nat.add_zero] at this; exact this, grid_row HB.out 0 hpos⟩)
  obtain ⟨s0, hc0, hz0⟩ := HCC.out _ hg3
  have hmb := mul_bd gl2 gw2
  rw [← hz0] at hfew2 hpl2 gw1 gw2 hmb
  have HP := Lib.hid hpl2
  clear hpl hpl2 hfew hr1 hgs hz0
  by_cases hone : g.length = 1 ∨ s0.size = 1
  · have hk0 := HP.out hone
    subst hk0
    rcases hone with h1 | h1
    · have e1 : ¬ ((1 : Int) < (g.length : Int)) := by omega
      have e2 : decide ((1 : Int) < (g.length : Int)) = false := decide_eq_false e1
      clear h1
      go_wp2
      go_ret
      exact ⟨rfl, hbb3⟩
    · have e1 : ¬ ((1 : Int) < (s0.size : Int)) := by omega
      have e2 : decide ((1 : Int) < (s0.size : Int)) = false := decide_eq_false e1
      clear h1
      by_cases h2 : 1 < g.length
      · have e3 : (1 : Int) < (g.length : Int) := by omega
        go_wp2
        go_ret
        exact ⟨rfl, hbb3⟩
      · have e3 : ¬ ((1 : Int) < (g.length : Int)) := by omega
        have e4 : decide ((1 : Int) < (g.length : Int)) = false := decide_eq_false e3
        go_wp2
        go_ret
        exact ⟨rfl, hbb3⟩
  · have e1 : (1 : Int) < (g.length : Int) := by omega
    have e2 : (1 : Int) < (s0.size : Int) := by omega
    clear hone
    go_wp2
    go_ret
    exact ⟨rfl, hbb3⟩
set_option maxRecDepth 100000 in
theorem lifted_FnRoundPlain (os : Os) (started : os.Started) (H : Type) (enc : TypeId × Value → H) :
    ReturnsInHanded {} Try.checked os 10 .any (Rows.fnRoundPlainSpec.pre6 enc Try.prog Try.f10 Rows.fnRoundPlainRow.domain false) (Rows.fnRoundPlainSpec.post enc Try.prog Try.f10 false true false false) := by
  refine returnsInHanded_of_change (C := Try.checked) own_knob started (by kernel_rfl) Try.func10
    (ChangeSpec.witness6 (enc := enc) (C := Try.checked) false ⟨#[], #[.slice none 0 0], []⟩ 8 (by kernel_rfl) (by kernel_rfl) (by kernel_rfl) (by kernel_rfl)) ?_
  intro W base args ds gs before hval0 hW hcnd _
  have hval : ∀ (j : Nat) t v, Try.f10.params[j]? = some t → args[j]? = some v → Value.okWide Try.prog W .any base t v := hval0
  have hW' := hW
  obtain ⟨p, q, hA0, hV, rfl, hfz, hnd⟩ := hW
  have hA : DataW.TrodAll enc Try.prog W 0 (fun _ => true) true Try.f10.params.toList args.toList ds p := hA0
  rw [Try.params10] at hA hval
  obtain ⟨v0, vs0, d0, ds0, p0, q0, hargs, rfl, rfl, h0, r0⟩ := trodAll_cons hA
  obtain ⟨rfl, rfl, rfl⟩ := trodAll_nil r0
  obtain rfl : args = #[v0] := by cases args; simp_all
  obtain ⟨rfl, rfl⟩ := trodVars_none hV
  clear hA0 hval0
  simp only [List.append_nil] at hW'
  have hlt : ∀ x ∈ (p0 ++ []), x.block < W.heap.size := fun x hx => hW'.lt x (by simpa using hx)
  have hlt0 : ∀ x ∈ p0, x.block < W.heap.size := fun x hx => hlt x (by simp [hx])
  have hag0 : ∀ (W' : World), Below W.heap.size W W' → DataW.Trod enc Try.prog W' 0 (fun b => decide (b < W.heap.size)) true 33 v0 d0 p0 :=
    fun W' hn => Below.trod laid_out rd_B (of_decide_eq_true (by kernel_rfl)) h0 hn hlt0
  obtain ⟨A0, c0, l0, rfl, hr0, hm0⟩ := open_B (hval 0 33 v0 rfl rfl) h0 hlt0
  refine (walk_FnRoundPlain W A0 c0 l0 hr0 hm0).mono fun e W' ⟨he, hb⟩ => ?_
  subst he
  exact ⟨_, rfl, _, _, _, [], (p0 ++ []), [], hW', (trodAll_cons_mk (shut_bool Try.underlying4 _) trodAll_mk0), (trodAll_cons_mk (hag0 W' hb) trodAll_mk0), rfl, hb.frame _, fun h => by cases h⟩

theorem over_FnRoundPlain : Rows.fnRoundPlainRow.holds Try.pinned (OpenSpec.ofChange Rows.fnRoundPlainSpec) :=
  OpenClaim.holds_of_wide 10 Try.f10 rfl rfl rfl rfl rfl rfl rfl ⟨rfl, rfl, rfl, rfl, rfl⟩ rfl rfl rfl rfl rfl (by kernel_rfl) Try.func10 (by kernel_rfl)
    (of_decide_eq_true (by kernel_rfl)) (by unfold Func.isWrapper; first | (rw [if_pos (by decide +kernel)]; kernel_rfl) | (rw [if_neg (by decide +kernel)]; exact ⟨rfl, rfl⟩))
    (fun os started H enc _ => lifted_FnRoundPlain os started H enc)

theorem holds_FnRoundPlain : Rows.FnRoundPlainSaid := over_FnRoundPlain
#print axioms holds_FnRoundPlain
end Go.Proofs.Ytmbjogjdcghacaa
