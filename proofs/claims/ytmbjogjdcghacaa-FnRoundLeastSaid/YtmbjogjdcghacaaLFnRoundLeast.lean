/- The law FnRoundLeast returns true for every code. No condition on the input. -/
import Derived.Test.YtmbjogjdcghacaaXF
import Derived.Test.YtmbjogjdcghacaaBT
namespace Go.Proofs.Ytmbjogjdcghacaa
open Go.ChangeShapes Go.WideShapes Go.ChangeAt Go.RowKit

/-- one of the first j ways through a cell is on a round -/
noncomputable def someB (F : Fd) (c j : Nat) : Bool := (List.range j).any fun d => F.roundB (4 * c + d)
theorem someB_zero (F : Fd) (c : Nat) : someB F c 0 = false := rfl
theorem someB_succ (F : Fd) (c j : Nat) : someB F c (j + 1) = (someB F c j || F.roundB (4 * c + j)) := by
  unfold someB
  rw [List.range_succ, List.any_append]; simp
theorem someB_times {F : Fd} (hm : 1 ≤ F.m) {c : Nat} (hc : c < F.n * F.m) : someB F c 4 = decide (0 < F.times c) := by
  rw [Bool.eq_iff_iff, decide_eq_true_iff, Fd.times_pos hm hc]
  unfold someB
  rw [List.any_eq_true]
  constructor
  · rintro ⟨d, hd, h⟩; exact ⟨d, List.mem_range.1 hd, Fd.roundB_iff.1 h⟩
  · rintro ⟨d, hd, h⟩; exact ⟨d, List.mem_range.2 hd, Fd.roundB_iff.2 h⟩

set_option maxHeartbeats 3200000 in
theorem walk_FnRoundLeast (w : World) (A : Option Addr) (c : Nat) (l : List UInt8) (hr : Rd w w.heap.size A (bv l)) (hm : l.length ≤ c ∧ l.length ≤ maxLen) :
    Calls Try.prog 9 #[.slice A l.length c] w fun e w' => e = .returned (.bool true) ∧ Below w.heap.size w w' := by
  by_cases hl : 1048576 < l.length
  · go_enter Try.func9, Try.ntmps9
    go_wp2
    go_ret
    exact ⟨rfl, Below.refl _ _⟩
  have hlb : decide ((1048576 : Int) < (l.length : Int)) = false := decide_eq_false (by omega)
  clear hl
  go_enter Try.func9, Try.ntmps9
  go_wp2_with fail
  refine (DrawRoundLeast_any l A c _ hr hm).mono ?_
  rintro e w1 ⟨g, A1, c1, rfl, hg, hlo, hhi, hsz, hb, hcp⟩
  have hgm : g.length ≤ maxLen := by unfold maxLen; omega
  have hgs : ∀ s ∈ g, s.size ≤ maxLen := fun s hs => by have := hsz s hs; unfold maxLen; omega
  clear hr hlb hcp
  have HI := Lib.hid (iRoundLeast_any A1 c1 g w1 hg hgm hgs)
  have HS := Lib.hid (fun (w : World) (h : Rd w w.heap.size A1 (sv g)) => sRoundLeast_any A1 c1 g w h hgm hgs)
  obtain ⟨K, hK⟩ : ∃ K, leastA g = K := ⟨_, rfl⟩
  have HK := Lib.hid hK
  obtain ⟨b, hbB⟩ : ∃ b, leastB g = b := ⟨_, rfl⟩
  have HB := Lib.hid hbB
  rw [hK, hbB] at HI
  simp only [hK, hbB] at HS
  clear hK hbB
  go_wp2_with fail
  refine HI.out.mono ?_
  rintro e w2 ⟨rfl, hb2⟩
  have hg2 := hg.later hb2
  have hbb2 := below_next hb hb2
  have HS2 := Lib.hid (HS.out _ hg2)
  clear HI HS hg hb hb2
  go_wp2_with fail
  refine HS2.out.mono ?_
  rintro e w3 ⟨rfl, hb3⟩
  have hg3 := hg2.later hb3
  have hbb3 := below_next hbb2 hb3
  clear HS2 hg2 hbb2 hb3
  have hkk : ((K : Int) == (K : Int)) = true := beq_self_eq_true _
  have hkn : ((K : Int) != (K : Int)) = false := by simp
  cases b
  · clear hkk
    go_wp2
    go_ret
    exact ⟨rfl, hbb3⟩
  obtain ⟨g1, lo⟩ := leastB_iff.1 HB.out
  have hKl : (fld g).leastO = some K := by
    obtain ⟨y, hy⟩ := Option.isSome_iff_exists.1 lo
    have := HK.out
    unfold leastA at this
    rw [if_pos g1, hy] at this
    rw [hy, ← this]; rfl
  obtain ⟨l1, l2, l3⟩ := Fd.least_inv hKl
  have hM := cells_25 g1
  rw [cells_fld] at l1
  have HF := Lib.hid (fun c (hc : c ≤ K) => show someB (fld g) c 4 = decide (c = K) by
    rw [someB_times (grid_hm g1) (by rw [cells_fld]; omega), decide_eq_decide]
    constructor
    · intro h
      apply Classical.byContradiction
      intro hne
      have := l3 c (by omega); omega
    · rintro rfl; exact l2)
  have HC := Lib.hid (fun (c d : Nat) (hc : c ≤ K) (hd : d < 4) w k => iRoundCells_yes A1 c1 g c d w k g1 (by omega) hd hgm hgs)
  have HR := Lib.hid hg3
  have HBB := Lib.hid hbb3
  have hK25 : K < 25 := by omega
  clear lo hKl l1 l2 l3 g1 hg3 hbb3 hgs
  go_wp2
  go_loopw [8] (fun i wr => ∃ (k : Nat), k ≤ K + 1 ∧ i = .int .i64 k ∧ Hid (Below w3.heap.size w3 wr)) (fun i _ => K + 1 - (intOf i).toNat)
  case atStart => exact ⟨0, Nat.zero_le _, rfl, Below.refl _ _⟩
  case round =>
    obtain ⟨k, hk, rfl, HW⟩ := hrel
    by_cases hlt : k ≤ K
    · obtain ⟨wo, rfl⟩ : ∃ wo : World, wo = wr := ⟨_, rfl⟩
      have hki : (k : Int) ≤ (K : Int) := by omega
      have HFK := Lib.hid (HF.out k hlt)
      go_wp2
      go_loopw [9, 10] (fun t i wi => ∃ (j : Nat), j ≤ 4 ∧ i = .int .i64 j ∧ t = .bool (someB (fld g) k j) ∧ Hid (Below w3.heap.size w3 wi)) (fun _ i _ => 4 - (intOf i).toNat)
      case atStart => exact ⟨0, Nat.zero_le _, rfl, rfl, HW.out⟩
      case round =>
        obtain ⟨j, hj, rfl, rfl, HW2⟩ := hrel
        by_cases hjl : j < 4
        · have HCJ := Lib.hid (HC.out k j hlt hjl _ (HR.out.later HW2.out))
          have HS := Lib.hid (someB_succ (fld g) k j)
          generalize (fld g).roundB (4 * k + j) = rb at *
          generalize someB (fld g) k j = sb at *
          cases sb
          · go_wp2_with fail
            refine HCJ.out.mono ?_
            rintro e w7 ⟨A7, n7, c7, rfl, hb7⟩
            go_wp2
            go_roundw
            case rel => exact ⟨j + 1, by omega, by go_num, by rw [HS.out]; rfl, below_next HW2.out hb7⟩
            case measure => simp [intOf]; omega
          · go_wp2_with fail
            refine HCJ.out.mono ?_
            rintro e w7 ⟨A7, n7, c7, rfl, hb7⟩
            go_wp2
            go_roundw
            case rel => exact ⟨j + 1, by omega, by go_num, by rw [HS.out]; rfl, below_next HW2.out hb7⟩
            case measure => simp [intOf]; omega
        · have hj4 : j = 4 := by omega
          subst hj4
          rw [HFK.out]
          by_cases he : k = K
          · have h1 : ((k : Int) == (K : Int)) = true := int_beq_yes he
            have h2 : decide (k = K) = true := decide_eq_true he
            rw [h2]
            clear he h2
            go_wp2
            go_roundw
            case rel => exact ⟨k + 1, by omega, by go_num, HW2.out⟩
            case measure => simp [intOf]; omega
          · have h1 : ((k : Int) == (K : Int)) = false := int_beq_no he
            have h2 : decide (k = K) = false := decide_eq_false he
            rw [h2]
            clear he h2
            go_wp2
            go_roundw
            case rel => exact ⟨k + 1, by omega, by go_num, HW2.out⟩
            case measure => simp [intOf]; omega
    · have hki : ¬ ((k : Int) ≤ (K : Int)) := by omega
      go_wp2
      go_ret
      exact ⟨rfl, below_next HBB.out HW.out⟩
set_option maxRecDepth 100000 in
theorem lifted_FnRoundLeast (os : Os) (started : os.Started) (H : Type) (enc : TypeId × Value → H) :
    ReturnsInHanded {} Try.checked os 9 .any (Rows.fnRoundLeastSpec.pre6 enc Try.prog Try.f9 Rows.fnRoundLeastRow.domain false) (Rows.fnRoundLeastSpec.post enc Try.prog Try.f9 false true false false) := by
  refine returnsInHanded_of_change (C := Try.checked) own_knob started (by kernel_rfl) Try.func9
    (ChangeSpec.witness6 (enc := enc) (C := Try.checked) false ⟨#[], #[.slice none 0 0], []⟩ 8 (by kernel_rfl) (by kernel_rfl) (by kernel_rfl) (by kernel_rfl)) ?_
  intro W base args ds gs before hval0 hW hcnd _
  have hval : ∀ (j : Nat) t v, Try.f9.params[j]? = some t → args[j]? = some v → Value.okWide Try.prog W .any base t v := hval0
  have hW' := hW
  obtain ⟨p, q, hA0, hV, rfl, hfz, hnd⟩ := hW
  have hA : DataW.TrodAll enc Try.prog W 0 (fun _ => true) true Try.f9.params.toList args.toList ds p := hA0
  rw [Try.params9] at hA hval
  obtain ⟨v0, vs0, d0, ds0, p0, q0, hargs, rfl, rfl, h0, r0⟩ := trodAll_cons hA
  obtain ⟨rfl, rfl, rfl⟩ := trodAll_nil r0
  obtain rfl : args = #[v0] := by cases args; simp_all
  obtain ⟨rfl, rfl⟩ := trodVars_none hV
  clear hA0 hval0
  simp only [List.append_nil] at hW'
  have hlt : ∀ x ∈ (p0 ++ []), x.block < W.heap.size := fun x hx => hW'.lt x (by simpa using hx)
  have hlt0 : ∀ x ∈ p0, x.block < W.heap.size := fun x hx => hlt x (by simp [hx])
  have hag0 : ∀ (W' : World), Below W.heap.size W W' → DataW.Trod enc Try.prog W' 0 (fun b => decide (b < W.heap.size)) true 33 v0 d0 p0 :=
    fun W' hn => Below.trod laid_out rd_B (of_decide_eq_true (by kernel_rfl)) h0 hn hlt0
  obtain ⟨A0, c0, l0, rfl, hr0, hm0⟩ := open_B (hval 0 33 v0 rfl rfl) h0 hlt0
  refine (walk_FnRoundLeast W A0 c0 l0 hr0 hm0).mono fun e W' ⟨he, hb⟩ => ?_
  subst he
  exact ⟨_, rfl, _, _, _, [], (p0 ++ []), [], hW', (trodAll_cons_mk (shut_bool Try.underlying4 _) trodAll_mk0), (trodAll_cons_mk (hag0 W' hb) trodAll_mk0), rfl, hb.frame _, fun h => by cases h⟩

theorem over_FnRoundLeast : Rows.fnRoundLeastRow.holds Try.pinned (OpenSpec.ofChange Rows.fnRoundLeastSpec) :=
  OpenClaim.holds_of_wide 9 Try.f9 rfl rfl rfl rfl rfl rfl rfl ⟨rfl, rfl, rfl, rfl, rfl⟩ rfl rfl rfl rfl rfl (by kernel_rfl) Try.func9 (by kernel_rfl)
    (of_decide_eq_true (by kernel_rfl)) (by unfold Func.isWrapper; first | (rw [if_pos (by decide +kernel)]; kernel_rfl) | (rw [if_neg (by decide +kernel)]; exact ⟨rfl, rfl⟩))
    (fun os started H enc _ => lifted_FnRoundLeast os started H enc)

theorem holds_FnRoundLeast : Rows.FnRoundLeastSaid := over_FnRoundLeast
#print axioms holds_FnRoundLeast
end Go.Proofs.Ytmbjogjdcghacaa
