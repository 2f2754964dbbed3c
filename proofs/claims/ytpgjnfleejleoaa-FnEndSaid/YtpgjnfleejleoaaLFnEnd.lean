/- The law FnEnd returns true for every code. No condition on the input. -/
import Derived.Test.YtpgjnfleejleoaaXD
import Derived.Test.YtpgjnfleejleoaaBE
namespace Go.Proofs.Ytpgjnfleejleoaa
open Go.ChangeShapes Go.WideShapes Go.ChangeAt Go.RowKit

/-- beams lead back -/
theorem end_back {g : List ByteArray} {p : Int} (h : givenB g p = true) : givenB g (endA g p : Nat) = true ∧ (endA g (endA g p : Nat) : Int) = p ∧ (endA g p : Int) ≠ p := by
  obtain ⟨k, rfl, hk, hg⟩ := given_nat h
  obtain ⟨he, _⟩ := ends_B hg hk
  have hkp : k < (fld g).ports := by rw [ports_fld]; exact hk
  obtain ⟨h1, h2, h3⟩ := Fd.ends_back (grid_hn hg) (grid_hm hg) hkp he
  have hne := Fd.end_ne (grid_hn hg) (grid_hm hg) hkp he
  rw [endA_yes h]
  have hq : endB (fld g) k < portsN g := by rw [← ports_fld]; exact h1
  have hgv : givenB g (endB (fld g) k : Nat) = true := givenB_iff.2 ⟨hg, by omega, by omega⟩
  obtain ⟨he2, _⟩ := ends_B hg hq
  obtain ⟨_, e2⟩ := Fd.ends_det he2 h3
  refine ⟨hgv, ?_, by omega⟩
  rw [endA_yes hgv, e2]

set_option maxHeartbeats 1600000 in
theorem walk_FnEnd (w : World) (A : Option Addr) (c : Nat) (l : List UInt8) (hr : Rd w w.heap.size A (bv l)) (hm : l.length ≤ c ∧ l.length ≤ maxLen) :
    Calls Try.prog 8 #[.slice A l.length c] w fun e w' => e = .returned (.bool true) ∧ Below w.heap.size w w' := by
  by_cases hl : 1048576 < l.length
  · go_enter Try.func8, Try.ntmps8
    go_wp2
    go_ret
    exact ⟨rfl, Below.refl _ _⟩
  have hlb : decide ((1048576 : Int) < (l.length : Int)) = false := decide_eq_false (by omega)
  clear hl
  go_enter Try.func8, Try.ntmps8
  go_wp2_with fail
  refine (DrawBeamEnd_any l A c _ hr hm).mono ?_
  rintro e w1 ⟨g, A1, c1, p, rfl, hg, hgz, hp, hb, hcp⟩
  obtain ⟨hlo, hhi, hsz⟩ := hgz
  have hgm : g.length ≤ maxLen := by unfold maxLen; omega
  have hgs : ∀ s ∈ g, s.size ≤ maxLen := fun s hs => by have := hsz s hs; unfold maxLen; omega
  clear hr hlb hcp hsz
  have HI := Lib.hid (iBeamEnd_any A1 c1 g p w1 hg hgm hgs)
  have HS := Lib.hid (fun (w : World) (h : Rd w w.heap.size A1 (sv g)) => sBeamEnd_any A1 c1 g p w h hgm hgs)
  obtain ⟨K, hK⟩ : ∃ K, endA g p = K := ⟨_, rfl⟩
  have HK := Lib.hid hK
  obtain ⟨b, hbB⟩ : ∃ b, givenB g p = b := ⟨_, rfl⟩
  have HB := Lib.hid hbB
  rw [hK, hbB] at HI
  simp only [hK, hbB] at HS
  clear hK hbB
  go_wp2_with fail
  refine HI.out.mono ?_
  rintro e w2 ⟨rfl, hb2⟩
  have hg2 := hg.later hb2
  have hbb2 := below_next hb hb2
  have HS2 := Lib.hid (HS.out _ hg2)
  clear HI HS hg hb hb2
  go_wp2_with fail
  refine HS2.out.mono ?_
  rintro e w3 ⟨rfl, hb3⟩
  have hg3 := hg2.later hb3
  have hbb3 := below_next hbb2 hb3
  clear HS2 hg2 hbb2 hb3
  have hkk : ((K : Int) == (K : Int)) = true := beq_self_eq_true _
  have hkn : ((K : Int) != (K : Int)) = false := by simp
  cases b
  · go_wp2
    go_ret
    exact ⟨rfl, hbb3⟩
  obtain ⟨g1, g2, g3⟩ := end_back HB.out
  rw [HK.out] at g1 g2 g3
  have hx := iBeamEnd_any A1 c1 g (K : Nat) w3 hg3 hgm hgs
  rw [g1] at hx
  obtain ⟨q, hq⟩ : ∃ q, endA g (K : Nat) = q := ⟨_, rfl⟩
  rw [hq] at hx g2
  have hqp : ((q : Int) == p) = true := by rw [beq_iff_eq]; exact g2
  have hkp : ((K : Int) != p) = true := by rw [bne_iff_ne]; exact g3
  have HX := Lib.hid hx
  clear hx hq g1 g2 g3
  go_wp2_with fail
  refine HX.out.mono ?_
  rintro e w4 ⟨rfl, hb4⟩
  have hbb4 := below_next hbb3 hb4
  go_wp2
  go_ret
  exact ⟨rfl, hbb4⟩
set_option maxRecDepth 100000 in
theorem lifted_FnEnd (os : Os) (started : os.Started) (H : Type) (enc : TypeId × Value → H) :
    ReturnsInHanded {} Try.checked os 8 .any (Rows.fnEndSpec.pre6 enc Try.prog Try.f8 Rows.fnEndRow.domain false) (Rows.fnEndSpec.post enc Try.prog Try.f8 false true false false) := by
  refine returnsInHanded_of_change (C := Try.checked) own_knob started (by kernel_rfl) Try.func8
    (ChangeSpec.witness6 (enc := enc) (C := Try.checked) false ⟨#[], #[.slice none 0 0], []⟩ 8 (by kernel_rfl) (by kernel_rfl) (by kernel_rfl) (by kernel_rfl)) ?_
  intro W base args ds gs before hval0 hW hcnd _
  have hval : ∀ (j : Nat) t v, Try.f8.params[j]? = some t → args[j]? = some v → Value.okWide Try.prog W .any base t v := hval0
  have hW' := hW
  obtain ⟨p, q, hA0, hV, rfl, hfz, hnd⟩ := hW
  have hA : DataW.TrodAll enc Try.prog W 0 (fun _ => true) true Try.f8.params.toList args.toList ds p := hA0
  rw [Try.params8] at hA hval
  obtain ⟨v0, vs0, d0, ds0, p0, q0, hargs, rfl, rfl, h0, r0⟩ := trodAll_cons hA
  obtain ⟨rfl, rfl, rfl⟩ := trodAll_nil r0
  obtain rfl : args = #[v0] := by cases args; simp_all
  obtain ⟨rfl, rfl⟩ := trodVars_none hV
  clear hA0 hval0
  simp only [List.append_nil] at hW'
  have hlt : ∀ x ∈ (p0 ++ []), x.block < W.heap.size := fun x hx => hW'.lt x (by simpa using hx)
  have hlt0 : ∀ x ∈ p0, x.block < W.heap.size := fun x hx => hlt x (by simp [hx])
  have hag0 : ∀ (W' : World), Below W.heap.size W W' → DataW.Trod enc Try.prog W' 0 (fun b => decide (b < W.heap.size)) true 22 v0 d0 p0 :=
    fun W' hn => Below.trod laid_out rd_B (of_decide_eq_true (by kernel_rfl)) h0 hn hlt0
  obtain ⟨A0, c0, l0, rfl, hr0, hm0⟩ := open_B (hval 0 22 v0 rfl rfl) h0 hlt0
  refine (walk_FnEnd W A0 c0 l0 hr0 hm0).mono fun e W' ⟨he, hb⟩ => ?_
  subst he
  exact ⟨_, rfl, _, _, _, [], (p0 ++ []), [], hW', (trodAll_cons_mk (shut_bool Try.underlying4 _) trodAll_mk0), (trodAll_cons_mk (hag0 W' hb) trodAll_mk0), rfl, hb.frame _, fun h => by cases h⟩

theorem over_FnEnd : Rows.fnEndRow.holds Try.pinned (OpenSpec.ofChange Rows.fnEndSpec) :=
  OpenClaim.holds_of_wide 8 Try.f8 rfl rfl rfl rfl rfl rfl rfl ⟨rfl, rfl, rfl, rfl, rfl⟩ rfl rfl rfl rfl rfl (by kernel_rfl) Try.func8 (by kernel_rfl)
    (of_decide_eq_true (by kernel_rfl)) (by unfold Func.isWrapper; first | (rw [if_pos (by decide +kernel)]; kernel_rfl) | (rw [if_neg (by decide +kernel)]; exact ⟨rfl, rfl⟩))
    (fun os started H enc _ => lifted_FnEnd os started H enc)

theorem holds_FnEnd : Rows.FnEndSaid := over_FnEnd
#print axioms holds_FnEnd
end Go.Proofs.Ytpgjnfleejleoaa
