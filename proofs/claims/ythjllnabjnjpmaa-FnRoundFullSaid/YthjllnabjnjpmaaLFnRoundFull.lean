/- The law FnRoundFull returns true for every code. No condition on the input. -/
import Derived.Test.YthjllnabjnjpmaaXF
import Derived.Test.YthjllnabjnjpmaaBQ
import Derived.Test.YthjllnabjnjpmaaPI
import Derived.Test.YthjllnabjnjpmaaH
import Derived.Test.YthjllnabjnjpmaaZ
import Derived.Test.YthjllnabjnjpmaaYB
namespace Go.Proofs.Ythjllnabjnjpmaa
set_option maxRecDepth 100000
open Go.ChangeShapes Go.WideShapes Go.ChangeAt Go.RowKit

/-- a field that is in turn where it has cells -/
theorem chk_ext {F : Fd} {n m : Nat} (hn : 1 ≤ n) (hn5 : n ≤ 5) (hm : 1 ≤ m) (hm5 : m ≤ 5) (hFn : F.n = n) (hFm : F.m = m) (hL : ∀ r c, r < n → c < m → F.L r c = chkL r c) : (∀ y ∈ F.lens, y = 4) ∧ F.lens.length = ((n - 1) * (m - 1) + 1) / 2 := by
  have hsym : Fd.Sym F (chkF n m) id := Fd.sym_id (F := F) (F' := chkF n m) hFn.symm hFm.symm fun r c hr hc => (hL r c (by rw [← hFn]; exact hr) (by rw [← hFm]; exact hc)).symm
  have hFm1 : 1 ≤ F.m := by rw [hFm]; exact hm
  obtain ⟨h1, _⟩ := chk_one hn hn5 hm hm5
  refine ⟨fun y hy => ?_, ?_⟩
  · unfold Fd.lens at hy
    obtain ⟨x, hx, rfl⟩ := List.mem_map.1 hy
    obtain ⟨hx1, hx2⟩ := Fd.mem_leads.1 hx
    have hok := Fd.st_ok hFm1 hx1
    have hc := (Fd.sym_comes hsym hok).2 (Fd.per_comes hx2.1)
    have hst : (id (F.st x) : St) = (chkF n m).st x := by
      show F.st x = (chkF n m).st x
      unfold Fd.st; rw [hFm]; rfl
    rw [hst] at hc
    have hx1' : x < 4 * (n * m) := by rw [hFn, hFm] at hx1; exact hx1
    rcases h1 x hx1' with h | h
    · exact Fd.comes_det hc (roundC_comes (Fd.st_ok (F := chkF n m) hm hx1') h)
    · exact absurd ⟨_, hc⟩ (offC_round h)
  · have h2 := (chk_law hn hn5 hm hm5 rfl).2
    have h3 := Fd.sym_leads hsym hFm1 (show 1 ≤ (chkF n m).m from hm)
    unfold Fd.lens at h2 ⊢
    rw [List.length_map] at h2 ⊢
    rw [← h3, h2]
theorem full_law {n m : Int} (h : (inB n 1 5 && inB m 1 5) = true) : ∃ a b : Nat, n = (a : Nat) ∧ m = (b : Nat) ∧ (1 ≤ a ∧ a ≤ 5) ∧ (1 ≤ b ∧ b ≤ 5) ∧ gridB (roundFullR n m) = true ∧ fullB (roundFullR n m) = true ∧ (roundFullR n m).length = a ∧ (∀ y ∈ (fld (roundFullR n m)).lens, y = 4) ∧ (fld (roundFullR n m)).lens.length = ((a - 1) * (b - 1) + 1) / 2 := by
  have h' := Bool.and_eq_true_iff.1 h
  have hn := inB_iff.1 h'.1
  have hm := inB_iff.1 h'.2
  obtain ⟨n, rfl⟩ := Int.eq_ofNat_of_zero_le (show 0 ≤ n by omega)
  obtain ⟨m, rfl⟩ := Int.eq_ofNat_of_zero_le (show 0 ≤ m by omega)
  have hR : roundFullR (n : Nat) (m : Nat) = mkG n m turnL := by unfold roundFullR; rw [h]; rfl
  have hfull : ∀ r c, turnL r c = 114 ∨ turnL r c = 102 := fun r c => by unfold turnL; split; exact .inl rfl; exact .inr rfl
  have hg : gridB (mkG n m turnL) = true := grid_mk ⟨by omega, by omega⟩ ⟨by omega, by omega⟩ fun r c _ _ => by
    rcases hfull r c with e | e <;> rw [e] <;> rfl
  have hm1 : width (mkG n m turnL) = m := width_mk _ (by omega)
  have hn1 : (mkG n m turnL).length = n := mkG_length _ _ _
  have hcl : ∀ r c, r < n → c < m → cellAt (mkG n m turnL) r c = turnL r c := fun r c hr hc => cell_mk _ hr hc
  rw [hR]
  refine ⟨n, m, rfl, rfl, ⟨by omega, by omega⟩, ⟨by omega, by omega⟩, hg, ?_, hn1, ?_⟩
  · rw [full_cell hg]
    intro r c hr hc
    rw [hcl r c (by omega) (by omega)]
    rcases hfull r c with e | e <;> rw [e] <;> decide
  · exact chk_ext (F := fld (mkG n m turnL)) (by omega) (by omega) (by omega) (by omega) hn1 hm1 fun r c hr hc => hcl r c hr hc

set_option maxHeartbeats 3200000 in
theorem walk_FnRoundFull (w : World) (A : Option Addr) (c : Nat) (l : List UInt8) (hr : Rd w w.heap.size A (bv l)) (hm : l.length ≤ c ∧ l.length ≤ maxLen) :
    Calls Try.prog 5 #[.slice A l.length c] w fun e w' => e = .returned (.bool true) ∧ Below w.heap.size w w' := by
  by_cases hl : 1048576 < l.length
  · go_enter Try.func5, Try.ntmps5
    go_wp2
    go_ret
    exact ⟨rfl, Below.refl _ _⟩
  have hlb : decide ((1048576 : Int) < (l.length : Int)) = false := decide_eq_false (by omega)
  clear hl
  go_enter Try.func5, Try.ntmps5
  go_wp2_with fail
  refine (DrawRoundFull_any l A c _ hr hm).mono ?_
  rintro e w1 ⟨n, m, rfl, ⟨⟨n1, n2⟩, ⟨m1, m2⟩⟩, hb⟩
  clear hr hlb
  have s1 := fun w => sRoundFull_any n m w
  have s2 := fun w => iRoundFull_any n m w
  have hRsm : roundFullR n m = [] ∨ gridB (roundFullR n m) = true := by
    cases hq : (inB n 1 5 && inB m 1 5)
    · left; unfold roundFullR; rw [hq]; rfl
    · obtain ⟨_, _, _, _, _, _, h, _⟩ := full_law hq
      exact .inr h
  obtain ⟨hRm, hRs⟩ := small_of hRsm
  have hlaw := fun h => full_law (n := n) (m := m) h
  obtain ⟨R, hR⟩ : ∃ R, roundFullR n m = R := ⟨_, rfl⟩
  obtain ⟨b, hB⟩ : ∃ b, (inB n 1 5 && inB m 1 5) = b := ⟨_, rfl⟩
  rw [hR] at hRm hRs
  simp only [hR, hB] at s1 s2 hlaw
  have S1 := Lib.hid s1
  have S2 := Lib.hid s2
  have HLAW := Lib.hid hlaw
  clear s1 s2 hR hB hRsm hlaw
  go_wp2_with fail
  refine (S2.out _).mono ?_
  rintro e w2 ⟨A2, c2, rfl, ho2, hb2⟩
  have hx2 := Rd.of_own ho2
  have hbb2 := below_next hb hb2
  clear ho2 S2 hb hb2
  go_wp2_with fail
  refine (S1.out _).mono ?_
  rintro e w3 ⟨A3, c3, rfl, ho3, hb3⟩
  have hx3 := hx2.later hb3
  have hy3 := Rd.of_own ho3
  have hbb3 := below_next hbb2 hb3
  clear ho3 S1 hbb2 hb3 hx2
  have HT := Lib.hid (sameTexts_same A2 A3 c2 c3 R w3 _ _ hx3 hy3 hRm)
  go_wp2_with fail
  refine HT.out.mono ?_
  rintro e w4 ⟨rfl, hd4⟩
  have hb4 := hd4.below w3.heap.size
  have hx4 := hx3.later hb4
  have hy4 := hy3.later hb4
  have hbb4 := below_next hbb3 hb4
  clear hb4 HT hx3 hy3 hbb3 hd4
  cases b
  · clear hRs
    have HT := Lib.hid (sameTexts_same A2 A3 c2 c3 R w4 _ _ hx4 hy4 hRm)
    go_wp2_with fail
    refine HT.out.mono ?_
    rintro e w5 ⟨rfl, hd5⟩
    have hbb5 := below_next hbb4 (hd5.below _)
    clear hd5
    go_wp2
    go_ret
    exact ⟨rfl, hbb5⟩
  obtain ⟨a, b, rfl, rfl, ⟨a1, a2⟩, ⟨b1, b2⟩, hg, hfu, hlen, hall, hcnt⟩ := HLAW.out rfl
  have h1 := iRoundLengths_yes A2 c2 R w4 hx4 hg hRm hRs
  have h2 := fun w B (k : Rd w B A2 (sv R)) => iGridFull_any A2 c2 R w B k hRm hRs
  simp only [hfu] at h2
  have hprod : ((a : Int) - 1) * ((b : Int) - 1) = (((a - 1) * (b - 1) : Nat) : Int) := by
    rw [Int.natCast_mul, Int.natCast_sub a1, Int.natCast_sub b1]; rfl
  have hp16 := Nat.mul_le_mul (show a - 1 ≤ 4 by omega) (show b - 1 ≤ 4 by omega)
  have H1 := Lib.hid h1
  have H2 := Lib.hid h2
  have HALL := Lib.hid hall
  have HPROD := Lib.hid hprod
  have HCNT := Lib.hid hcnt
  have HLEN := Lib.hid hlen
  generalize (fld R).lens = LN at *
  clear hcnt hlen
  clear h1 h2 hall hg hfu hRs hy4 HLAW n1 n2 m1 m2 hprod
  go_wp2_with fail
  refine H1.out.mono ?_
  rintro e w5 ⟨A5, c5, l', rfl, hp, hr5, hb5⟩
  have HX := Lib.hid hr5
  have HG := Lib.hid (hx4.later hb5)
  have hbb5 := below_next hbb4 hb5
  have HA4 := Lib.hid (fun y (hy : y ∈ l') => HALL.out y (hp.mem_iff.1 hy))
  have hll := hp.length_eq
  rw [HCNT.out] at hll
  have hprod := HPROD.out
  have hmu0 : 0 ≤ ((a : Int) - 1) * ((b : Int) - 1) := by omega
  have hmu1 : ((a : Int) - 1) * ((b : Int) - 1) ≤ 16 := by omega
  have hfin : ((l'.length : Int) == (((a : Int) - 1) * ((b : Int) - 1) + 1) / 2) = true := by
    rw [beq_iff_eq, hprod, hll]; omega
  have hfin2 : ((R.length : Int) == (a : Int)) = true := int_beq_yes HLEN.out
  have hl100 : l'.length ≤ 100 := by omega
  clear hr5 hp hll hb5 hx4 hbb4 H1 HALL hprod hp16
  go_wp2
  go_loop [11] (fun i => ∃ (k : Nat), k ≤ l'.length ∧ i = .int .i64 k) (fun i => l'.length - (intOf i).toNat)
  case atStart => exact ⟨0, Nat.zero_le _, rfl⟩
  case round =>
    obtain ⟨i, hi, rfl⟩ := hrel
    by_cases hlt : i < l'.length
    · obtain ⟨b1, o1, hA1, hb1, x1⟩ := HX.out.at_ (niv_get l' i hlt)
      subst hA1
      rw [HA4.out _ (List.getElem_mem hlt)] at x1
      go_wp2
      go_round
      case rel => exact ⟨i + 1, by omega, by go_num⟩
      case measure => simp [intOf]; omega
    · have HGF := Lib.hid (H2.out w5 _ HG.out)
      go_wp2_with fail
      refine HGF.out.mono ?_
      rintro e w' ⟨rfl, rfl⟩
      go_wp2
      go_ret
      exact ⟨rfl, hbb5⟩
set_option maxRecDepth 100000 in
theorem lifted_FnRoundFull (os : Os) (started : os.Started) (H : Type) (enc : TypeId × Value → H) :
    ReturnsInHanded {} Try.checked os 5 .any (Rows.fnRoundFullSpec.pre6 enc Try.prog Try.f5 Rows.fnRoundFullRow.domain false) (Rows.fnRoundFullSpec.post enc Try.prog Try.f5 false true false false) := by
  refine returnsInHanded_of_change (C := Try.checked) own_knob started (by kernel_rfl) Try.func5
    (ChangeSpec.witness6 (enc := enc) (C := Try.checked) false ⟨#[], #[.slice none 0 0], []⟩ 8 (by kernel_rfl) (by kernel_rfl) (by kernel_rfl) (by kernel_rfl)) ?_
  intro W base args ds gs before hval0 hW hcnd _
  have hval : ∀ (j : Nat) t v, Try.f5.params[j]? = some t → args[j]? = some v → Value.okWide Try.prog W .any base t v := hval0
  have hW' := hW
  obtain ⟨p, q, hA0, hV, rfl, hfz, hnd⟩ := hW
  have hA : DataW.TrodAll enc Try.prog W 0 (fun _ => true) true Try.f5.params.toList args.toList ds p := hA0
  rw [Try.params5] at hA hval
  obtain ⟨v0, vs0, d0, ds0, p0, q0, hargs, rfl, rfl, h0, r0⟩ := trodAll_cons hA
  obtain ⟨rfl, rfl, rfl⟩ := trodAll_nil r0
  obtain rfl : args = #[v0] := by cases args; simp_all
  obtain ⟨rfl, rfl⟩ := trodVars_none hV
  clear hA0 hval0
  simp only [List.append_nil] at hW'
  have hlt : ∀ x ∈ (p0 ++ []), x.block < W.heap.size := fun x hx => hW'.lt x (by simpa using hx)
  have hlt0 : ∀ x ∈ p0, x.block < W.heap.size := fun x hx => hlt x (by simp [hx])
  have hag0 : ∀ (W' : World), Below W.heap.size W W' → DataW.Trod enc Try.prog W' 0 (fun b => decide (b < W.heap.size)) true 22 v0 d0 p0 :=
    fun W' hn => Below.trod laid_out rd_B (of_decide_eq_true (by kernel_rfl)) h0 hn hlt0
  obtain ⟨A0, c0, l0, rfl, hr0, hm0⟩ := open_B (hval 0 22 v0 rfl rfl) h0 hlt0
  refine (walk_FnRoundFull W A0 c0 l0 hr0 hm0).mono fun e W' ⟨he, hb⟩ => ?_
  subst he
  exact ⟨_, rfl, _, _, _, [], (p0 ++ []), [], hW', (trodAll_cons_mk (shut_bool Try.underlying4 _) trodAll_mk0), (trodAll_cons_mk (hag0 W' hb) trodAll_mk0), rfl, hb.frame _, fun h => by cases h⟩

theorem over_FnRoundFull : Rows.fnRoundFullRow.holds Try.pinned (OpenSpec.ofChange Rows.fnRoundFullSpec) :=
  OpenClaim.holds_of_wide 5 Try.f5 rfl rfl rfl rfl rfl rfl rfl ⟨rfl, rfl, rfl, rfl, rfl⟩ rfl rfl rfl rfl rfl (by kernel_rfl) Try.func5 (by kernel_rfl)
    (of_decide_eq_true (by kernel_rfl)) (by unfold Func.isWrapper; first | (rw [if_pos (by decide +kernel)]; kernel_rfl) | (rw [if_neg (by decide +kernel)]; exact ⟨rfl, rfl⟩))
    (fun os started H enc _ => lifted_FnRoundFull os started H enc)

theorem holds_FnRoundFull : Rows.FnRoundFullSaid := over_FnRoundFull
#print axioms holds_FnRoundFull
end Go.Proofs.Ythjllnabjnjpmaa
