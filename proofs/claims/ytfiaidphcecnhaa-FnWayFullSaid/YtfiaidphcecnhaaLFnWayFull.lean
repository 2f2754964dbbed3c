/- The law FnWayFull returns true for every code. No condition on the input. -/
import Derived.Test.YtfiaidphcecnhaaXD
import Derived.Test.YtfiaidphcecnhaaYC
namespace Go.Proofs.Ytfiaidphcecnhaa
open Go.ChangeShapes Go.WideShapes Go.ChangeAt Go.RowKit

set_option maxHeartbeats 1600000 in
theorem walk_FnWayFull (w : World) (A : Option Addr) (c : Nat) (l : List UInt8) (hr : Rd w w.heap.size A (bv l)) (hm : l.length ≤ c ∧ l.length ≤ maxLen) :
    Calls Try.prog 10 #[.slice A l.length c] w fun e w' => e = .returned (.bool true) ∧ Below w.heap.size w w' := by
  by_cases hl : 1048576 < l.length
  · go_enter Try.func10, Try.ntmps10
    go_wp2
    go_ret
    exact ⟨rfl, Below.refl _ _⟩
  have hlb : decide ((1048576 : Int) < (l.length : Int)) = false := decide_eq_false (by omega)
  clear hl
  go_enter Try.func10, Try.ntmps10
  go_wp2_with fail
  refine (DrawBeamTurns_any l A c _ hr hm).mono ?_
  rintro e w1 ⟨g, A1, c1, p, rfl, hg, hgz, hp, hb, hcp⟩
  obtain ⟨hlo, hhi, hsz⟩ := hgz
  have hgm : g.length ≤ maxLen := by unfold maxLen; omega
  have hgs : ∀ s ∈ g, s.size ≤ maxLen := fun s hs => by have := hsz s hs; unfold maxLen; omega
  clear hr hlb hcp hsz
  have HI := Lib.hid (iBeamTurns_any A1 c1 g p w1 hg hgm hgs)
  have HS := Lib.hid (fun (w : World) (h : Rd w w.heap.size A1 (sv g)) => sBeamTurns_any A1 c1 g p w h hgm hgs)
  obtain ⟨K, hK⟩ : ∃ K, turnsA g p = K := ⟨_, rfl⟩
  have HK := Lib.hid hK
  obtain ⟨b, hbB⟩ : ∃ b, givenB g p = b := ⟨_, rfl⟩
  have HB := Lib.hid hbB
  rw [hK, hbB] at HI
  simp only [hK, hbB] at HS
  clear hK hbB
  go_wp2_with fail
  refine HI.out.mono ?_
  rintro e w2 ⟨rfl, hb2⟩
  have hg2 := hg.later hb2
  have hbb2 := below_next hb hb2
  have HS2 := Lib.hid (HS.out _ hg2)
  clear HI HS hg hb hb2
  go_wp2_with fail
  refine HS2.out.mono ?_
  rintro e w3 ⟨rfl, hb3⟩
  have hg3 := hg2.later hb3
  have hbb3 := below_next hbb2 hb3
  clear HS2 hg2 hbb2 hb3
  have hkk : ((K : Int) == (K : Int)) = true := beq_self_eq_true _
  have hkn : ((K : Int) != (K : Int)) = false := by simp
  cases b
  · clear hkk
    go_wp2
    go_ret
    exact ⟨rfl, hbb3⟩
  have hgB := (givenB_iff.1 HB.out).1
  have h1 := iBeamLength_any A1 c1 g p w3 hg3 hgm hgs
  rw [HB.out] at h1
  have HF1 := Lib.hid (fun (hf : fullB g = true) => turnsA_full (p := p) hf)
  have HF2 := Lib.hid (fun (hf : mirrors g = 0) => turnsA_none (p := p) hf)
  have h2 := fun (w : World) (k : Rd w w.heap.size A1 (sv g)) => iGridCount_any A1 c1 g w _ k hgm hgs
  have hcR : countR g = mirrors g := by unfold countR; rw [hgB]; rfl
  simp only [hcR, hgB] at h2
  have h3 := fun (w : World) (k : Rd w w.heap.size A1 (sv g)) => iGridFull_any A1 c1 g w _ k hgm hgs
  rw [HK.out] at HF1 HF2
  obtain ⟨Ln, hLn⟩ : ∃ Ln, lenA g p = Ln := ⟨_, rfl⟩
  obtain ⟨Mn, hMn⟩ : ∃ Mn, mirrors g = Mn := ⟨_, rfl⟩
  obtain ⟨fb, hfb⟩ : ∃ fb, fullB g = fb := ⟨_, rfl⟩
  rw [hLn] at h1 HF1
  simp only [hMn] at h2
  rw [hMn] at HF2
  simp only [hfb] at h3
  rw [hfb] at HF1
  have H2 := Lib.hid h2
  have H3 := Lib.hid h3
  clear h2 h3 hcR hLn hMn hfb hgB hgs
  have HQ := Lib.hid (h1)
  go_wp2_with fail
  refine HQ.out.mono ?_
  rintro e w4 ⟨rfl, hbx⟩
  have hg4 := hg3.later hbx
  have hbb4 := below_next hbb3 hbx
  clear HQ hbx hg3 hbb3
  have H2 := Lib.hid (H2.out _ hg4)
  go_wp2_with fail
  refine H2.out.mono ?_
  rintro e w' ⟨rfl, rfl⟩
  clear H2 h1
  have H3 := Lib.hid (H3.out _ hg4)
  go_wp2_with fail
  refine H3.out.mono ?_
  rintro e w' ⟨rfl, rfl⟩
  clear H3
  have hmz : ((Mn : Int) = 0 ∧ K = 0) ∨ (0 : Int) < (Mn : Int) := by
    rcases Nat.eq_zero_or_pos Mn with h | h
    · exact .inl ⟨by omega, HF2.out h⟩
    · exact .inr (by omega)
  cases fb
  · rcases hmz with ⟨h0, hk0⟩ | h0
    · have e0 : Mn = 0 := by omega
      subst e0
      subst hk0
      go_wp2
      go_ret
      exact ⟨rfl, hbb4⟩
    · go_wp2
      go_ret
      exact ⟨rfl, hbb4⟩
  · have hkl := HF1.out rfl
    subst hkl
    rcases hmz with ⟨h0, hk0⟩ | h0
    · have e0 : Mn = 0 := by omega
      subst e0
      subst hk0
      go_wp2
      go_ret
      exact ⟨rfl, hbb4⟩
    · go_wp2
      go_ret
      exact ⟨rfl, hbb4⟩
set_option maxRecDepth 100000 in
theorem lifted_FnWayFull (os : Os) (started : os.Started) (H : Type) (enc : TypeId × Value → H) :
    ReturnsInHanded {} Try.checked os 10 .any (Rows.fnWayFullSpec.pre6 enc Try.prog Try.f10 Rows.fnWayFullRow.domain false) (Rows.fnWayFullSpec.post enc Try.prog Try.f10 false true false false) := by
  refine returnsInHanded_of_change (C := Try.checked) own_knob started (by kernel_rfl) Try.func10
    (ChangeSpec.witness6 (enc := enc) (C := Try.checked) false ⟨#[], #[.slice none 0 0], []⟩ 8 (by kernel_rfl) (by kernel_rfl) (by kernel_rfl) (by kernel_rfl)) ?_
  intro W base args ds gs before hval0 hW hcnd _
  have hval : ∀ (j : Nat) t v, Try.f10.params[j]? = some t → args[j]? = some v → Value.okWide Try.prog W .any base t v := hval0
  have hW' := hW
  obtain ⟨p, q, hA0, hV, rfl, hfz, hnd⟩ := hW
  have hA : DataW.TrodAll enc Try.prog W 0 (fun _ => true) true Try.f10.params.toList args.toList ds p := hA0
  rw [Try.params10] at hA hval
  obtain ⟨v0, vs0, d0, ds0, p0, q0, hargs, rfl, rfl, h0, r0⟩ := trodAll_cons hA
  obtain ⟨rfl, rfl, rfl⟩ := trodAll_nil r0
  obtain rfl : args = #[v0] := by cases args; simp_all
  obtain ⟨rfl, rfl⟩ := trodVars_none hV
  clear hA0 hval0
  simp only [List.append_nil] at hW'
  have hlt : ∀ x ∈ (p0 ++ []), x.block < W.heap.size := fun x hx => hW'.lt x (by simpa using hx)
  have hlt0 : ∀ x ∈ p0, x.block < W.heap.size := fun x hx => hlt x (by simp [hx])
  have hag0 : ∀ (W' : World), Below W.heap.size W W' → DataW.Trod enc Try.prog W' 0 (fun b => decide (b < W.heap.size)) true 32 v0 d0 p0 :=
    fun W' hn => Below.trod laid_out rd_B (of_decide_eq_true (by kernel_rfl)) h0 hn hlt0
  obtain ⟨A0, c0, l0, rfl, hr0, hm0⟩ := open_B (hval 0 32 v0 rfl rfl) h0 hlt0
  refine (walk_FnWayFull W A0 c0 l0 hr0 hm0).mono fun e W' ⟨he, hb⟩ => ?_
  subst he
  exact ⟨_, rfl, _, _, _, [], (p0 ++ []), [], hW', (trodAll_cons_mk (shut_bool Try.underlying4 _) trodAll_mk0), (trodAll_cons_mk (hag0 W' hb) trodAll_mk0), rfl, hb.frame _, fun h => by cases h⟩

theorem over_FnWayFull : Rows.fnWayFullRow.holds Try.pinned (OpenSpec.ofChange Rows.fnWayFullSpec) :=
  OpenClaim.holds_of_wide 10 Try.f10 rfl rfl rfl rfl rfl rfl rfl ⟨rfl, rfl, rfl, rfl, rfl⟩ rfl rfl rfl rfl rfl (by kernel_rfl) Try.func10 (by kernel_rfl)
    (of_decide_eq_true (by kernel_rfl)) (by unfold Func.isWrapper; first | (rw [if_pos (by decide +kernel)]; kernel_rfl) | (rw [if_neg (by decide +kernel)]; exact ⟨rfl, rfl⟩))
    (fun os started H enc _ => lifted_FnWayFull os started H enc)

theorem holds_FnWayFull : Rows.FnWayFullSaid := over_FnWayFull
#print axioms holds_FnWayFull
end Go.Proofs.Ytfiaidphcecnhaa
