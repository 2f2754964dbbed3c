/- The law FnMeets returns true for every code. No condition on the input. -/
import Derived.Test.YtfiaidphcecnhaaXE
import Derived.Test.YtfiaidphcecnhaaYC
namespace Go.Proofs.Ytfiaidphcecnhaa
open Go.ChangeShapes Go.WideShapes Go.ChangeAt Go.RowKit

set_option maxHeartbeats 3200000 in
theorem walk_FnMeets (w : World) (A : Option Addr) (c : Nat) (l : List UInt8) (hr : Rd w w.heap.size A (bv l)) (hm : l.length ≤ c ∧ l.length ≤ maxLen) :
    Calls Try.prog 13 #[.slice A l.length c] w fun e w' => e = .returned (.bool true) ∧ Below w.heap.size w w' := by
  by_cases hl : 1048576 < l.length
  · go_enter Try.func13, Try.ntmps13
    go_wp2
    go_ret
    exact ⟨rfl, Below.refl _ _⟩
  have hlb : decide ((1048576 : Int) < (l.length : Int)) = false := decide_eq_false (by omega)
  clear hl
  go_enter Try.func13, Try.ntmps13
  go_wp2_with fail
  refine (DrawBeamMeets_any l A c _ hr hm).mono ?_
  rintro e w1 ⟨g, A1, c1, p, q, rfl, hg, hgz, hp, hq, hb, hcp⟩
  obtain ⟨hlo, hhi, hsz⟩ := hgz
  have hgm : g.length ≤ maxLen := by unfold maxLen; omega
  have hgs : ∀ s ∈ g, s.size ≤ maxLen := fun s hs => by have := hsz s hs; unfold maxLen; omega
  clear hr hlb hcp hsz
  have HI := Lib.hid (iBeamMeets_any A1 c1 g p q w1 hg hgm hgs)
  have HS := Lib.hid (fun (w : World) (h : Rd w w.heap.size A1 (sv g)) => sBeamMeets_any A1 c1 g p q w h hgm hgs)
  obtain ⟨K, hK⟩ : ∃ K, meetsA g p q = K := ⟨_, rfl⟩
  have HK := Lib.hid hK
  obtain ⟨b, hbB⟩ : ∃ b, meetsB g p q = b := ⟨_, rfl⟩
  have HB := Lib.hid hbB
  rw [hK, hbB] at HI
  simp only [hK, hbB] at HS
  clear hK hbB
  go_wp2_with fail
  refine HI.out.mono ?_
  rintro e w2 ⟨rfl, hb2⟩
  have hg2 := hg.later hb2
  have hbb2 := below_next hb hb2
  have HS2 := Lib.hid (HS.out _ hg2)
  clear HI HS hg hb hb2
  go_wp2_with fail
  refine HS2.out.mono ?_
  rintro e w3 ⟨rfl, hb3⟩
  have hg3 := hg2.later hb3
  have hbb3 := below_next hbb2 hb3
  clear HS2 hg2 hbb2 hb3
  have hkk : ((K : Int) == (K : Int)) = true := beq_self_eq_true _
  have hkn : ((K : Int) != (K : Int)) = false := by simp
  cases b
  · clear hkk
    go_wp2
    go_ret
    exact ⟨rfl, hbb3⟩
  obtain ⟨m1, m2, m3, m4⟩ := meetsB_iff.1 HB.out
  obtain ⟨s1, s2⟩ := meets_swap HB.out
  obtain ⟨t1, t2⟩ := meets_ends HB.out
  obtain ⟨u1, u2⟩ := meets_le g p q
  rw [HK.out] at s2 t2 u1 u2
  have h1 := fun (w : World) (k : Rd w w.heap.size A1 (sv g)) => iBeamMeets_any A1 c1 g q p w k hgm hgs
  have h2 := fun (w : World) (k : Rd w w.heap.size A1 (sv g)) => iBeamEnd_any A1 c1 g p w k hgm hgs
  have h3 := fun (w : World) (k : Rd w w.heap.size A1 (sv g)) => iBeamEnd_any A1 c1 g q w k hgm hgs
  have h4 := fun (w : World) (k : Rd w w.heap.size A1 (sv g)) => iBeamMeets_any A1 c1 g (endA g p : Nat) (endA g q : Nat) w k hgm hgs
  have h5 := fun (w : World) (k : Rd w w.heap.size A1 (sv g)) => iBeamLength_any A1 c1 g p w k hgm hgs
  have h6 := fun (w : World) (k : Rd w w.heap.size A1 (sv g)) => iBeamLength_any A1 c1 g q w k hgm hgs
  simp only [s1, s2] at h1
  simp only [m1] at h2 h5
  simp only [m2] at h3 h6
  simp only [t1, t2] at h4
  have v1 := wayA_len g p
  have v2 := wayA_len g q
  obtain ⟨L1, hL1⟩ : ∃ L1, lenA g p = L1 := ⟨_, rfl⟩
  obtain ⟨L2, hL2⟩ : ∃ L2, lenA g q = L2 := ⟨_, rfl⟩
  obtain ⟨E1, hE1⟩ : ∃ E1, endA g p = E1 := ⟨_, rfl⟩
  obtain ⟨E2, hE2⟩ : ∃ E2, endA g q = E2 := ⟨_, rfl⟩
  simp only [hL1] at h5
  simp only [hL2] at h6
  simp only [hE1] at h2 h4
  simp only [hE2] at h3 h4
  rw [hL1] at u1
  rw [hL2] at u2
  have H1 := Lib.hid h1
  have H2 := Lib.hid h2
  have H3 := Lib.hid h3
  have H4 := Lib.hid h4
  have H5 := Lib.hid h5
  have H6 := Lib.hid h6
  clear h1 h2 h3 h4 h5 h6 m1 m2 m3 m4 s1 s2 t1 t2 hL1 hL2 hE1 hE2 hgs v1 v2
  have HQ := Lib.hid (H1.out _ hg3)
  go_wp2_with fail
  refine HQ.out.mono ?_
  rintro e w4 ⟨rfl, hbx⟩
  have hg4 := hg3.later hbx
  have hbb4 := below_next hbb3 hbx
  clear HQ hbx hg3 hbb3
  have HQ := Lib.hid (H2.out _ hg4)
  go_wp2_with fail
  refine HQ.out.mono ?_
  rintro e w5 ⟨rfl, hbx⟩
  have hg5 := hg4.later hbx
  have hbb5 := below_next hbb4 hbx
  clear HQ hbx hg4 hbb4
  have HQ := Lib.hid (H3.out _ hg5)
  go_wp2_with fail
  refine HQ.out.mono ?_
  rintro e w6 ⟨rfl, hbx⟩
  have hg6 := hg5.later hbx
  have hbb6 := below_next hbb5 hbx
  clear HQ hbx hg5 hbb5
  have HQ := Lib.hid (H4.out _ hg6)
  go_wp2_with fail
  refine HQ.out.mono ?_
  rintro e w7 ⟨rfl, hbx⟩
  have hg7 := hg6.later hbx
  have hbb7 := below_next hbb6 hbx
  clear HQ hbx hg6 hbb6
  have HQ := Lib.hid (H5.out _ hg7)
  go_wp2_with fail
  refine HQ.out.mono ?_
  rintro e w8 ⟨rfl, hbx⟩
  have hg8 := hg7.later hbx
  have hbb8 := below_next hbb7 hbx
  clear HQ hbx hg7 hbb7
  have HQ := Lib.hid (H6.out _ hg8)
  go_wp2_with fail
  refine HQ.out.mono ?_
  rintro e w9 ⟨rfl, hbx⟩
  have hg9 := hg8.later hbx
  have hbb9 := below_next hbb8 hbx
  clear HQ hbx hg8 hbb8
  have i1 : (K : Int) ≤ (L1 : Int) := by omega
  have i2 : (K : Int) ≤ (L2 : Int) := by omega
  clear H1 H2 H3 H4 H5 H6
  rcases Nat.lt_or_ge L2 L1 with hm12 | hm12
  · have i3 : (L2 : Int) < (L1 : Int) := by omega
    go_wp2
    go_ret
    exact ⟨rfl, hbb9⟩
  · have i3 : ¬ ((L2 : Int) < (L1 : Int)) := by omega
    have i4 : decide ((L2 : Int) < (L1 : Int)) = false := decide_eq_false i3
    have i5 : (L1 : Int) ≤ (L2 : Int) := by omega
    go_wp2
    go_ret
    exact ⟨rfl, hbb9⟩
set_option maxRecDepth 100000 in
theorem lifted_FnMeets (os : Os) (started : os.Started) (H : Type) (enc : TypeId × Value → H) :
    ReturnsInHanded {} Try.checked os 13 .any (Rows.fnMeetsSpec.pre6 enc Try.prog Try.f13 Rows.fnMeetsRow.domain false) (Rows.fnMeetsSpec.post enc Try.prog Try.f13 false true false false) := by
  refine returnsInHanded_of_change (C := Try.checked) own_knob started (by kernel_rfl) Try.func13
    (ChangeSpec.witness6 (enc := enc) (C := Try.checked) false ⟨#[], #[.slice none 0 0], []⟩ 8 (by kernel_rfl) (by kernel_rfl) (by kernel_rfl) (by kernel_rfl)) ?_
  intro W base args ds gs before hval0 hW hcnd _
  have hval : ∀ (j : Nat) t v, Try.f13.params[j]? = some t → args[j]? = some v → Value.okWide Try.prog W .any base t v := hval0
  have hW' := hW
  obtain ⟨p, q, hA0, hV, rfl, hfz, hnd⟩ := hW
  have hA : DataW.TrodAll enc Try.prog W 0 (fun _ => true) true Try.f13.params.toList args.toList ds p := hA0
  rw [Try.params13] at hA hval
  obtain ⟨v0, vs0, d0, ds0, p0, q0, hargs, rfl, rfl, h0, r0⟩ := trodAll_cons hA
  obtain ⟨rfl, rfl, rfl⟩ := trodAll_nil r0
  obtain rfl : args = #[v0] := by cases args; simp_all
  obtain ⟨rfl, rfl⟩ := trodVars_none hV
  clear hA0 hval0
  simp only [List.append_nil] at hW'
  have hlt : ∀ x ∈ (p0 ++ []), x.block < W.heap.size := fun x hx => hW'.lt x (by simpa using hx)
  have hlt0 : ∀ x ∈ p0, x.block < W.heap.size := fun x hx => hlt x (by simp [hx])
  have hag0 : ∀ (W' : World), Below W.heap.size W W' → DataW.Trod enc Try.prog W' 0 (fun b => decide (b < W.heap.size)) true 32 v0 d0 p0 :=
    fun W' hn => Below.trod laid_out rd_B (of_decide_eq_true (by kernel_rfl)) h0 hn hlt0
  obtain ⟨A0, c0, l0, rfl, hr0, hm0⟩ := open_B (hval 0 32 v0 rfl rfl) h0 hlt0
  refine (walk_FnMeets W A0 c0 l0 hr0 hm0).mono fun e W' ⟨he, hb⟩ => ?_
  subst he
  exact ⟨_, rfl, _, _, _, [], (p0 ++ []), [], hW', (trodAll_cons_mk (shut_bool Try.underlying4 _) trodAll_mk0), (trodAll_cons_mk (hag0 W' hb) trodAll_mk0), rfl, hb.frame _, fun h => by cases h⟩

theorem over_FnMeets : Rows.fnMeetsRow.holds Try.pinned (OpenSpec.ofChange Rows.fnMeetsSpec) :=
  OpenClaim.holds_of_wide 13 Try.f13 rfl rfl rfl rfl rfl rfl rfl ⟨rfl, rfl, rfl, rfl, rfl⟩ rfl rfl rfl rfl rfl (by kernel_rfl) Try.func13 (by kernel_rfl)
    (of_decide_eq_true (by kernel_rfl)) (by unfold Func.isWrapper; first | (rw [if_pos (by decide +kernel)]; kernel_rfl) | (rw [if_neg (by decide +kernel)]; exact ⟨rfl, rfl⟩))
    (fun os started H enc _ => lifted_FnMeets os started H enc)

theorem holds_FnMeets : Rows.FnMeetsSaid := over_FnMeets
#print axioms holds_FnMeets
end Go.Proofs.Ytfiaidphcecnhaa
