/- The law FnMost returns true for every code. No condition on the input. -/
import Derived.Test.YtmbjogjdcghacaaXF
import Derived.Test.YtmbjogjdcghacaaBP
import Derived.Test.YtmbjogjdcghacaaH
import Derived.Test.YtmbjogjdcghacaaZ
namespace Go.Proofs.Ytmbjogjdcghacaa
open Go.ChangeShapes Go.WideShapes Go.ChangeAt Go.RowKit

theorem mostB_inv {n m : Int} (h : mostB n m = true) : inB n 1 5 = true ∧ inB m 1 5 = true ∧ n * m ≤ 9 := by
  unfold mostB at h
  simp only [Bool.and_eq_true, decide_eq_true_iff] at h
  exact ⟨h.1.1, h.1.2, h.2⟩
theorem most_law {n m : Int} (h : mostB n m = true) : mostB m n = true ∧ mostA m n = mostA n m ∧ (inB n 1 5 && inB m 1 5) = true ∧ gridB (roundFullR n m) = true ∧ roundsA (roundFullR n m) ≤ mostA n m := by
  obtain ⟨h1, h2, h3⟩ := mostB_inv h
  have hn := inB_iff.1 h1
  have hm := inB_iff.1 h2
  have hB : mostB m n = true := by unfold mostB; rw [h1, h2, decide_eq_true (show m * n ≤ 9 by rw [Int.mul_comm]; exact h3)]; rfl
  obtain ⟨n, rfl⟩ := Int.eq_ofNat_of_zero_le (show 0 ≤ n by omega)
  obtain ⟨m, rfl⟩ := Int.eq_ofNat_of_zero_le (show 0 ≤ m by omega)
  have hR : roundFullR (n : Nat) (m : Nat) = mkG n m turnL := by unfold roundFullR; rw [h1, h2]; rfl
  have hfull : ∀ r c, turnL r c = 114 ∨ turnL r c = 102 := fun r c => by unfold turnL; split; exact .inl rfl; exact .inr rfl
  have hg : gridB (mkG n m turnL) = true := grid_mk ⟨by omega, by omega⟩ ⟨by omega, by omega⟩ fun r c _ _ => by
    rcases hfull r c with e | e <;> rw [e] <;> rfl
  refine ⟨hB, by rw [mostA_yes hB, mostA_yes h, most_turn (by omega) (by omega)], by rw [h1, h2]; rfl, by rw [hR]; exact hg, ?_⟩
  rw [hR, roundsA_yes hg, mostA_yes h]
  have hm1 : (fld (mkG n m turnL)).m = m := width_mk _ (by omega)
  have hn1 : (fld (mkG n m turnL)).n = n := mkG_length _ _ _
  have hx := most_full (F := fld (mkG n m turnL)) (by rw [hm1]; omega) (fun r c hr hc => by
    have e : (fld (mkG n m turnL)).L r c = turnL r c := cell_mk _ (by rw [hn1] at hr; exact hr) (by rw [hm1] at hc; exact hc)
    rw [e]; exact hfull r c)
  rw [hn1, hm1] at hx
  exact hx

set_option maxHeartbeats 1600000 in
theorem walk_FnMost (w : World) (A : Option Addr) (c : Nat) (l : List UInt8) (hr : Rd w w.heap.size A (bv l)) (hm : l.length ≤ c ∧ l.length ≤ maxLen) :
    Calls Try.prog 14 #[.slice A l.length c] w fun e w' => e = .returned (.bool true) ∧ Below w.heap.size w w' := by
  by_cases hl : 1048576 < l.length
  · go_enter Try.func14, Try.ntmps14
    go_wp2
    go_ret
    exact ⟨rfl, Below.refl _ _⟩
  have hlb : decide ((1048576 : Int) < (l.length : Int)) = false := decide_eq_false (by omega)
  clear hl
  go_enter Try.func14, Try.ntmps14
  go_wp2_with fail
  refine (DrawRoundMost_any l A c _ hr hm).mono ?_
  rintro e w1 ⟨n, m, rfl, ⟨⟨n1, n2⟩, ⟨m1, m2⟩⟩, hb⟩
  clear hr hlb
  have s1 := fun w => sRoundMost_any n m w (by omega) (by omega) (by omega) (by omega)
  have s2 := fun w => iRoundMost_any n m w (by omega) (by omega) (by omega) (by omega)
  have s3 := fun w => iRoundMost_any m n w (by omega) (by omega) (by omega) (by omega)
  have s4 := fun w => iRoundFull_any n m w
  obtain ⟨K, hK⟩ : ∃ K, mostA n m = K := ⟨_, rfl⟩
  obtain ⟨b, hB⟩ : ∃ b, mostB n m = b := ⟨_, rfl⟩
  have HK := Lib.hid hK
  have HB := Lib.hid hB
  simp only [hK, hB] at s1 s2
  have S1 := Lib.hid s1
  have S2 := Lib.hid s2
  have S3 := Lib.hid s3
  have S4 := Lib.hid s4
  clear s1 s2 s3 s4 hK hB n1 n2 m1 m2
  have hkk : ((K : Int) == (K : Int)) = true := beq_self_eq_true _
  have hkn : ((K : Int) != (K : Int)) = false := by simp
  go_wp2_with fail
  refine (S2.out _).mono ?_
  rintro e w2 ⟨rfl, hb2⟩
  have hbb2 := below_next hb hb2
  clear hb hb2 S2
  go_wp2_with fail
  refine (S1.out _).mono ?_
  rintro e w3 ⟨rfl, hb3⟩
  have hbb3 := below_next hbb2 hb3
  clear hbb2 hb3 S1
  cases b
  · clear hkk
    go_wp2
    go_ret
    exact ⟨rfl, hbb3⟩
  obtain ⟨h1, h2, h3, h4, h5⟩ := most_law HB.out
  have s3 := S3.out
  have s4 := S4.out
  rw [h1, h2, HK.out] at s3
  rw [h3] at s4
  rw [HK.out] at h5
  have s5 := fun A c w (k : Rd w w.heap.size A (sv (roundFullR n m))) => iRoundMany_any A c (roundFullR n m) w k (small_of (.inr h4)).1 (small_of (.inr h4)).2
  rw [h4] at s5
  generalize roundsA (roundFullR n m) = R at *
  generalize roundFullR n m = gg at *
  have hri : (R : Int) ≤ (K : Int) := by omega
  have T3 := Lib.hid s3
  have T4 := Lib.hid s4
  have T5 := Lib.hid s5
  clear S3 S4 s3 s4 s5 h1 h2 h3 h4
  go_wp2_with fail
  refine (T3.out _).mono ?_
  rintro e w4 ⟨rfl, hb4⟩
  have hbb4 := below_next hbb3 hb4
  clear hbb3 hb4 T3
  go_wp2_with fail
  refine (T4.out _).mono ?_
  rintro e w5 ⟨A5, c5, rfl, ho5, hb5⟩
  have hbb5 := below_next hbb4 hb5
  have T6 := Lib.hid (T5.out A5 c5 w5 (Rd.of_own ho5))
  clear hbb4 hb5 ho5 T4 T5
  go_wp2_with fail
  refine T6.out.mono ?_
  rintro e w6 ⟨rfl, hb6⟩
  have hbb6 := below_next hbb5 hb6
  clear hbb5 hb6 T6
  go_wp2
  go_ret
  exact ⟨rfl, hbb6⟩
set_option maxRecDepth 100000 in
theorem lifted_FnMost (os : Os) (started : os.Started) (H : Type) (enc : TypeId × Value → H) :
    ReturnsInHanded {} Try.checked os 14 .any (Rows.fnMostSpec.pre6 enc Try.prog Try.f14 Rows.fnMostRow.domain false) (Rows.fnMostSpec.post enc Try.prog Try.f14 false true false false) := by
  refine returnsInHanded_of_change (C := Try.checked) own_knob started (by kernel_rfl) Try.func14
    (ChangeSpec.witness6 (enc := enc) (C := Try.checked) false ⟨#[], #[.slice none 0 0], []⟩ 8 (by kernel_rfl) (by kernel_rfl) (by kernel_rfl) (by kernel_rfl)) ?_
  intro W base args ds gs before hval0 hW hcnd _
  have hval : ∀ (j : Nat) t v, Try.f14.params[j]? = some t → args[j]? = some v → Value.okWide Try.prog W .any base t v := hval0
  have hW' := hW
  obtain ⟨p, q, hA0, hV, rfl, hfz, hnd⟩ := hW
  have hA : DataW.TrodAll enc Try.prog W 0 (fun _ => true) true Try.f14.params.toList args.toList ds p := hA0
  rw [Try.params14] at hA hval
  obtain ⟨v0, vs0, d0, ds0, p0, q0, hargs, rfl, rfl, h0, r0⟩ := trodAll_cons hA
  obtain ⟨rfl, rfl, rfl⟩ := trodAll_nil r0
  obtain rfl : args = #[v0] := by cases args; simp_all
  obtain ⟨rfl, rfl⟩ := trodVars_none hV
  clear hA0 hval0
  simp only [List.append_nil] at hW'
  have hlt : ∀ x ∈ (p0 ++ []), x.block < W.heap.size := fun x hx => hW'.lt x (by simpa using hx)
  have hlt0 : ∀ x ∈ p0, x.block < W.heap.size := fun x hx => hlt x (by simp [hx])
  have hag0 : ∀ (W' : World), Below W.heap.size W W' → DataW.Trod enc Try.prog W' 0 (fun b => decide (b < W.heap.size)) true 33 v0 d0 p0 :=
    fun W' hn => Below.trod laid_out rd_B (of_decide_eq_true (by kernel_rfl)) h0 hn hlt0
  obtain ⟨A0, c0, l0, rfl, hr0, hm0⟩ := open_B (hval 0 33 v0 rfl rfl) h0 hlt0
  refine (walk_FnMost W A0 c0 l0 hr0 hm0).mono fun e W' ⟨he, hb⟩ => ?_
  subst he
  exact ⟨_, rfl, _, _, _, [], (p0 ++ []), [], hW', (trodAll_cons_mk (shut_bool Try.underlying4 _) trodAll_mk0), (trodAll_cons_mk (hag0 W' hb) trodAll_mk0), rfl, hb.frame _, fun h => by cases h⟩

theorem over_FnMost : Rows.fnMostRow.holds Try.pinned (OpenSpec.ofChange Rows.fnMostSpec) :=
  OpenClaim.holds_of_wide 14 Try.f14 rfl rfl rfl rfl rfl rfl rfl ⟨rfl, rfl, rfl, rfl, rfl⟩ rfl rfl rfl rfl rfl (by kernel_rfl) Try.func14 (by kernel_rfl)
    (of_decide_eq_true (by kernel_rfl)) (by unfold Func.isWrapper; first | (rw [if_pos (by decide +kernel)]; kernel_rfl) | (rw [if_neg (by decide +kernel)]; exact ⟨rfl, rfl⟩))
    (fun os started H enc _ => lifted_FnMost os started H enc)

theorem holds_FnMost : Rows.FnMostSaid := over_FnMost
#print axioms holds_FnMost
end Go.Proofs.Ytmbjogjdcghacaa
