/- The law FnNumber returns true for every code. No condition on the input. -/
import Derived.Test.YtjnelfgjglpchaaZ
import Derived.Test.YtjnelfgjglpchaaYB
namespace Go.Proofs.Ytjnelfgjglpchaa
open Go.ChangeShapes Go.WideShapes Go.ChangeAt Go.RowKit

theorem numB_grid {g : List ByteArray} (h : numB g = true) : gridB g = true ∧ cellsN g ≤ 20 := by
  unfold numB at h
  rw [Bool.and_eq_true, decide_eq_true_iff] at h
  exact h
theorem of_numR {g : List ByteArray} (h : numB g = true) : gridOfB g.length (width g) (numR g : Nat) = true ∧ gridOfR g.length (width g) (numR g : Nat) = g := by
  obtain ⟨hg, hc⟩ := numB_grid h
  have h1 := grid_len hg
  have h2 := grid_width hg
  have hN : numR g = numG g := by unfold numR; rw [h]; rfl
  have hf := number_fits hg
  have hB : gridOfB g.length (width g) (numR g : Nat) = true := by
    unfold gridOfB
    rw [inB_yes (by omega), inB_yes (by omega), hN]
    simp only [Bool.true_and, Int.toNat_natCast]
    exact inB_yes (by omega)
  refine ⟨hB, ?_⟩
  unfold gridOfR
  rw [hB, if_pos rfl, hN]
  simp only [Int.toNat_natCast]
  exact of_number hg
theorem numR_le (g : List ByteArray) : numR g ≤ 3486784401 := by
  unfold numR
  cases h : numB g
  · exact Nat.zero_le _
  · rw [if_pos rfl]
    obtain ⟨hg, hc⟩ := numB_grid h
    have h1 := number_fits hg
    have h2 := pw3_mono (show g.length * width g ≤ 20 from hc)
    have h3 : pw3 20 = 3486784401 := by decide
    omega

set_option maxHeartbeats 1600000 in
theorem walk_FnNumber (w : World) (A : Option Addr) (c : Nat) (l : List UInt8) (hr : Rd w w.heap.size A (bv l)) (hm : l.length ≤ c ∧ l.length ≤ maxLen) :
    Calls Try.prog 13 #[.slice A l.length c] w fun e w' => e = .returned (.bool true) ∧ Below w.heap.size w w' := by
  by_cases hl : 1048576 < l.length
  · go_enter Try.func13, Try.ntmps13
    go_wp2
    go_ret
    exact ⟨rfl, Below.refl _ _⟩
  have hlb : decide ((1048576 : Int) < (l.length : Int)) = false := decide_eq_false (by omega)
  clear hl
  go_enter Try.func13, Try.ntmps13
  go_wp2_with fail
  refine (DrawGridNumber_any l A c _ hr hm).mono ?_
  rintro e w1 ⟨g, A1, c1, rfl, hg, hlo, hhi, hsz, hb, hcp⟩
  have hgm : g.length ≤ maxLen := by unfold maxLen; omega
  have hgs : ∀ s ∈ g, s.size ≤ maxLen := fun s hs => by have := hsz s hs; unfold maxLen; omega
  clear hr hlb hcp
  obtain ⟨b, hbB⟩ : ∃ b, numB g = b := ⟨_, rfl⟩
  have hkb := numR_le g
  obtain ⟨k, hk⟩ : ∃ k, numR g = k := ⟨_, rfl⟩
  have hi := iGridNumber_any A1 c1 g w1 _ hg hgm hgs
  have hsS := fun (w : World) (h : Rd w w.heap.size A1 (sv g)) => sGridNumber_any A1 c1 g w _ h hgm hgs
  rw [hbB, hk] at hi
  simp only [hbB, hk] at hsS
  rw [hk] at hkb
  have HI := Lib.hid hi
  have HS := Lib.hid hsS
  have HB := Lib.hid hbB
  have HK := Lib.hid hk
  clear hi hsS hbB hk
  go_wp2_with fail
  refine HI.out.mono ?_
  rintro e w2 ⟨rfl, rfl⟩
  clear HI
  go_wp2_with fail
  refine (HS.out _ hg).mono ?_
  rintro e w3 ⟨rfl, hd⟩
  have hg3 := hg.later (hd.below _)
  have hbb3 := below_next hb (hd.below _)
  clear HS hg hb hd
  have hkk : ((k : Int) == (k : Int)) = true := beq_self_eq_true _
  have hkn : ((k : Int) != (k : Int)) = false := by simp
  have hk0 : (0 : Int) ≤ (k : Int) := Int.natCast_nonneg _
  cases b
  · go_wp2
    go_ret
    exact ⟨rfl, hbb3⟩
  obtain ⟨hgB, hc20⟩ := numB_grid HB.out
  have h1 := grid_len hgB
  have hR := of_numR HB.out
  obtain ⟨s0, hs0⟩ : ∃ s0, g[0] = s0 := ⟨_, rfl⟩
  have hz0 : s0.size = width g := by rw [← hs0]; exact grid_row hgB 0 (by omega)
  have hO := iGridOf_any g.length s0.size k w3 (by omega) (by omega)
  rw [hz0, ← HK.out, hR.2, hR.1, HK.out, ← hz0] at hO
  have HO := Lib.hid hO
  obtain ⟨b0, off0, rfl, hb0, hc0⟩ := hg3.at_ (sv_get g 0 (by omega))
  rw [hs0, Nat.add_zero] at hc0
  have HG := Lib.hid hgB
  clear hO hR hz0 hs0 hgs hsz hgB
  go_wp2_with fail
  refine HO.out.mono ?_
  rintro e w4 ⟨A4, c4, rfl, hown, hb4⟩
  have hg4 := hg3.later hb4
  have hx4 := Rd.of_own hown
  have hbb4 := below_next hbb3 hb4
  clear hown HO hb4 hg3 hbb3 hc0
  have HT := Lib.hid (sameTexts_same A4 _ c4 c1 g w4 _ _ hx4 hg4 hgm)
  go_wp2_with fail
  refine HT.out.mono ?_
  rintro e w5 ⟨rfl, hd5⟩
  have hbb5 := below_next hbb4 (hd5.below _)
  clear hd5
  go_wp2
  go_ret
  exact ⟨rfl, hbb5⟩
set_option maxRecDepth 100000 in
theorem lifted_FnNumber (os : Os) (started : os.Started) (H : Type) (enc : TypeId × Value → H) :
    ReturnsInHanded {} Try.checked os 13 .any (Rows.fnNumberSpec.pre6 enc Try.prog Try.f13 Rows.fnNumberRow.domain false) (Rows.fnNumberSpec.post enc Try.prog Try.f13 false true false false) := by
  refine returnsInHanded_of_change (C := Try.checked) own_knob started (by kernel_rfl) Try.func13
    (ChangeSpec.witness6 (enc := enc) (C := Try.checked) false ⟨#[], #[.slice none 0 0], []⟩ 8 (by kernel_rfl) (by kernel_rfl) (by kernel_rfl) (by kernel_rfl)) ?_
  intro W base args ds gs before hval0 hW hcnd _
  have hval : ∀ (j : Nat) t v, Try.f13.params[j]? = some t → args[j]? = some v → Value.okWide Try.prog W .any base t v := hval0
  have hW' := hW
  obtain ⟨p, q, hA0, hV, rfl, hfz, hnd⟩ := hW
  have hA : DataW.TrodAll enc Try.prog W 0 (fun _ => true) true Try.f13.params.toList args.toList ds p := hA0
  rw [Try.params13] at hA hval
  obtain ⟨v0, vs0, d0, ds0, p0, q0, hargs, rfl, rfl, h0, r0⟩ := trodAll_cons hA
  obtain ⟨rfl, rfl, rfl⟩ := trodAll_nil r0
  obtain rfl : args = #[v0] := by cases args; simp_all
  obtain ⟨rfl, rfl⟩ := trodVars_none hV
  clear hA0 hval0
  simp only [List.append_nil] at hW'
  have hlt : ∀ x ∈ (p0 ++ []), x.block < W.heap.size := fun x hx => hW'.lt x (by simpa using hx)
  have hlt0 : ∀ x ∈ p0, x.block < W.heap.size := fun x hx => hlt x (by simp [hx])
  have hag0 : ∀ (W' : World), Below W.heap.size W W' → DataW.Trod enc Try.prog W' 0 (fun b => decide (b < W.heap.size)) true 29 v0 d0 p0 :=
    fun W' hn => Below.trod laid_out rd_B (of_decide_eq_true (by kernel_rfl)) h0 hn hlt0
  obtain ⟨A0, c0, l0, rfl, hr0, hm0⟩ := open_B (hval 0 29 v0 rfl rfl) h0 hlt0
  refine (walk_FnNumber W A0 c0 l0 hr0 hm0).mono fun e W' ⟨he, hb⟩ => ?_
  subst he
  exact ⟨_, rfl, _, _, _, [], (p0 ++ []), [], hW', (trodAll_cons_mk (shut_bool Try.underlying4 _) trodAll_mk0), (trodAll_cons_mk (hag0 W' hb) trodAll_mk0), rfl, hb.frame _, fun h => by cases h⟩

theorem over_FnNumber : Rows.fnNumberRow.holds Try.pinned (OpenSpec.ofChange Rows.fnNumberSpec) :=
  OpenClaim.holds_of_wide 13 Try.f13 rfl rfl rfl rfl rfl rfl rfl ⟨rfl, rfl, rfl, rfl, rfl⟩ rfl rfl rfl rfl rfl (by kernel_rfl) Try.func13 (by kernel_rfl)
    (of_decide_eq_true (by kernel_rfl)) (by unfold Func.isWrapper; first | (rw [if_pos (by decide +kernel)]; kernel_rfl) | (rw [if_neg (by decide +kernel)]; exact ⟨rfl, rfl⟩))
    (fun os started H enc _ => lifted_FnNumber os started H enc)

theorem holds_FnNumber : Rows.FnNumberSaid := over_FnNumber
#print axioms holds_FnNumber
end Go.Proofs.Ytjnelfgjglpchaa
