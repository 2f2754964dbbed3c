/- The law FnUnder returns true for every code. No condition on the input. -/
import Derived.Test.YtjnelfgjglpchaaZ
import Derived.Test.YtjnelfgjglpchaaYB
import Derived.Test.YtjnelfgjglpchaaXC
import Derived.Test.YtjnelfgjglpchaaO
import Derived.Test.YtjnelfgjglpchaaQ
namespace Go.Proofs.Ytjnelfgjglpchaa
open Go.ChangeShapes Go.WideShapes Go.ChangeAt Go.RowKit

theorem under_parts {g h : List ByteArray} (hb : underB g h = true) : gridB g = true ∧ gridB h = true ∧ gridB (g ++ h) = true := by
  unfold underB at hb
  simp only [Bool.and_eq_true] at hb
  exact ⟨hb.1.1, hb.1.2, hb.2⟩

set_option maxHeartbeats 1600000 in
theorem walk_FnUnder (w : World) (A : Option Addr) (c : Nat) (l : List UInt8) (hr : Rd w w.heap.size A (bv l)) (hm : l.length ≤ c ∧ l.length ≤ maxLen) :
    Calls Try.prog 11 #[.slice A l.length c] w fun e w' => e = .returned (.bool true) ∧ Below w.heap.size w w' := by
  by_cases hl : 1048576 < l.length
  · go_enter Try.func11, Try.ntmps11
    go_wp2
    go_ret
    exact ⟨rfl, Below.refl _ _⟩
  have hlb : decide ((1048576 : Int) < (l.length : Int)) = false := decide_eq_false (by omega)
  clear hl
  go_enter Try.func11, Try.ntmps11
  go_wp2_with fail
  refine (DrawGridUnder_any l A c _ hr hm).mono ?_
  rintro e w1 ⟨g, h, A1, B1, c1, d1, rfl, hg, hh, hgz, hhz, hb, hcp, hdp⟩
  obtain ⟨hlo, hhi, hsz⟩ := hgz
  obtain ⟨klo, khi, ksz⟩ := hhz
  have hgm : g.length ≤ maxLen := by unfold maxLen; omega
  have hgs : ∀ s ∈ g, s.size ≤ maxLen := fun s hs => by have := hsz s hs; unfold maxLen; omega
  have hhm : h.length ≤ maxLen := by unfold maxLen; omega
  have hhs : ∀ s ∈ h, s.size ≤ maxLen := fun s hs => by have := ksz s hs; unfold maxLen; omega
  clear hr hlb hsz ksz
  have hi := iGridUnder_any A1 B1 c1 d1 g h w1 hg hh hgm hgs hhm hhs
  have hsS := fun (w : World) (k1 : Rd w w.heap.size A1 (sv g)) (k2 : Rd w w.heap.size B1 (sv h)) => sGridUnder_any A1 B1 c1 d1 g h w k1 k2 hgm hgs hhm hhs
  have hln := len_gridunder g h
  obtain ⟨R, hR⟩ : ∃ R, orNone2 (underB g h) (g ++ h) = R := ⟨_, rfl⟩
  have hRsm : R = [] ∨ gridB R = true := by
    rw [← hR]
    cases hq : underB g h
    · exact .inl rfl
    · exact .inr (by unfold orNone2; rw [if_pos rfl]; exact (fun hq => (under_parts hq).2.2) hq)
  obtain ⟨hRm, hRs⟩ := small_of hRsm
  rw [hR] at hi hln
  simp only [hR] at hsS
  obtain ⟨b, hbB⟩ : ∃ b, underB g h = b := ⟨_, rfl⟩
  rw [hbB] at hi
  simp only [hbB] at hsS
  have HI := Lib.hid hi
  have HS := Lib.hid hsS
  have HR := Lib.hid hR
  have HB := Lib.hid hbB
  clear hi hsS hR hbB hRsm
  go_wp2_with fail
  refine HI.out.mono ?_
  rintro e w2 ⟨A2, c2, rfl, hown, hb2⟩
  have hg2 := hg.later hb2
  have hh2 := hh.later hb2
  have hx2 := Rd.of_own hown
  have hcap2 := (own_cap hown).1
  have hbb2 := below_next hb hb2
  clear hown HI hg hh hb hb2
  go_wp2_with fail
  refine (HS.out _ hg2 hh2).mono ?_
  rintro e w3 ⟨A3, c3, rfl, hown, hb3⟩
  have hg3 := hg2.later hb3
  have hh3 := hh2.later hb3
  have hx3 := hx2.later hb3
  have hy3 := Rd.of_own hown
  have hbb3 := below_next hbb2 hb3
  clear hown HS hg2 hh2 hx2 hbb2 hb3
  have HT := Lib.hid (sameTexts_same A2 A3 c2 c3 R w3 _ _ hx3 hy3 hRm)
  go_wp2_with fail
  refine HT.out.mono ?_
  rintro e w4 ⟨rfl, hd4⟩
  have hb4 := hd4.below w3.heap.size
  have hg4 := hg3.later hb4
  have hh4 := hh3.later hb4
  have hx4 := hx3.later hb4
  have hy4 := hy3.later hb4
  have hbb4 := below_next hbb3 hb4
  clear hb4 HT hg3 hh3 hx3 hy3 hbb3 hd4
  cases b
  · clear hgs
    have HT := Lib.hid (sameTexts_same A2 A3 c2 c3 R w4 _ _ hx4 hy4 hRm)
    go_wp2_with fail
    refine HT.out.mono ?_
    rintro e w5 ⟨rfl, hd5⟩
    have hbb5 := below_next hbb4 (hd5.below _)
    clear hd5
    go_wp2
    go_ret
    exact ⟨rfl, hbb5⟩
  obtain ⟨hgB, hhB, hoB⟩ := under_parts HB.out
  have hRg : R = g ++ h := by rw [← HR.out, HB.out]; rfl
  obtain ⟨t1, t2, t3⟩ := under_turn hgB hhB hoB
  have HT1 := Lib.hid (iGridTurn_yes A1 c1 g w4 hgB hg4)
  have HT2 := Lib.hid (fun (w : World) (k : Rd w w.heap.size B1 (sv h)) => iGridTurn_yes B1 d1 h w hhB k)
  have hRB : gridB R = true := by rw [hRg]; exact hoB
  have ht4 := fun (w : World) (k : Rd w w.heap.size A2 (sv R)) => iGridTurn_yes A2 c2 R w hRB k
  have sm1 := small_of (.inr (grid_turn hgB))
  have sm2 := small_of (.inr (grid_turn hhB))
  have hbb := fun (A B : Option Addr) (c d : Nat) (w : World) (k1 : Rd w w.heap.size A (sv (gTurn h))) (k2 : Rd w w.heap.size B (sv (gTurn g))) => iGridBeside_any A B c d (gTurn h) (gTurn g) w k1 k2 sm2.1 sm2.2 sm1.1 sm1.2
  have hBB : besideB (gTurn h) (gTurn g) = true := by unfold besideB; rw [grid_turn hgB, grid_turn hhB, t1, beq_iff_eq.2 t2]; rfl
  have hOO : orNone2 true (gBeside (gTurn h) (gTurn g)) = gTurn R := by rw [hRg, ← t3]; rfl
  simp only [hBB, hOO] at hbb
  have hTm := (small_of (.inr (grid_turn hRB))).1
  have HBB := Lib.hid hbb
  have HT4 := Lib.hid ht4
  clear hbb ht4 hBB hOO sm1 sm2 t1 t2 t3 hRg hgB hhB hoB hRB hgs hhs hRs
  go_wp2_with fail
  refine HT1.out.mono ?_
  rintro e w5 ⟨A5, c5, rfl, hown, hb5⟩
  have hh5 := hh4.later hb5
  have hx5 := hx4.later hb5
  have ha5 := Rd.of_own hown
  have hbb5 := below_next hbb4 hb5
  have H2 := Lib.hid (HT2.out _ hh5)
  clear hown HT1 hb5 hg4 hh4 hx4 hy4 hbb4 HT2
  go_wp2_with fail
  refine H2.out.mono ?_
  rintro e w6 ⟨A6, c6, rfl, hown, hb6⟩
  have hx6 := hx5.later hb6
  have ha6 := ha5.later hb6
  have hq6 := Rd.of_own hown
  have hbb6 := below_next hbb5 hb6
  have H3 := Lib.hid (HBB.out A6 A5 c6 c5 _ hq6 ha6)
  clear hown H2 hb6 hh5 hx5 ha5 hbb5 HBB
  go_wp2_with fail
  refine H3.out.mono ?_
  rintro e w7 ⟨A7, c7, rfl, hown, hb7⟩
  have hx7 := hx6.later hb7
  have hz7 := Rd.of_own hown
  have hbb7 := below_next hbb6 hb7
  have H4 := Lib.hid (HT4.out _ hx7)
  clear hown H3 hb7 hx6 ha6 hq6 hbb6 HT4
  go_wp2_with fail
  refine H4.out.mono ?_
  rintro e w8 ⟨A8, c8, rfl, hown, hb8⟩
  have hz8 := hz7.later hb8
  have hy8 := Rd.of_own hown
  have hbb8 := below_next hbb7 hb8
  clear hown H4 hb8 hx7 hz7 hbb7
  have HT := Lib.hid (sameTexts_same A7 A8 c7 c8 (gTurn R) w8 _ _ hz8 hy8 hTm)
  go_wp2_with fail
  refine HT.out.mono ?_
  rintro e w9 ⟨rfl, hd9⟩
  have hbb9 := below_next hbb8 (hd9.below _)
  clear hd9
  go_wp2
  go_ret
  exact ⟨rfl, hbb9⟩
set_option maxRecDepth 100000 in
theorem lifted_FnUnder (os : Os) (started : os.Started) (H : Type) (enc : TypeId × Value → H) :
    ReturnsInHanded {} Try.checked os 11 .any (Rows.fnUnderSpec.pre6 enc Try.prog Try.f11 Rows.fnUnderRow.domain false) (Rows.fnUnderSpec.post enc Try.prog Try.f11 false true false false) := by
  refine returnsInHanded_of_change (C := Try.checked) own_knob started (by kernel_rfl) Try.func11
    (ChangeSpec.witness6 (enc := enc) (C := Try.checked) false ⟨#[], #[.slice none 0 0], []⟩ 8 (by kernel_rfl) (by kernel_rfl) (by kernel_rfl) (by kernel_rfl)) ?_
  intro W base args ds gs before hval0 hW hcnd _
  have hval : ∀ (j : Nat) t v, Try.f11.params[j]? = some t → args[j]? = some v → Value.okWide Try.prog W .any base t v := hval0
  have hW' := hW
  obtain ⟨p, q, hA0, hV, rfl, hfz, hnd⟩ := hW
  have hA : DataW.TrodAll enc Try.prog W 0 (fun _ => true) true Try.f11.params.toList args.toList ds p := hA0
  rw [Try.params11] at hA hval
  obtain ⟨v0, vs0, d0, ds0, p0, q0, hargs, rfl, rfl, h0, r0⟩ := trodAll_cons hA
  obtain ⟨rfl, rfl, rfl⟩ := trodAll_nil r0
  obtain rfl : args = #[v0] := by cases args; simp_all
  obtain ⟨rfl, rfl⟩ := trodVars_none hV
  clear hA0 hval0
  simp only [List.append_nil] at hW'
  have hlt : ∀ x ∈ (p0 ++ []), x.block < W.heap.size := fun x hx => hW'.lt x (by simpa using hx)
  have hlt0 : ∀ x ∈ p0, x.block < W.heap.size := fun x hx => hlt x (by simp [hx])
  have hag0 : ∀ (W' : World), Below W.heap.size W W' → DataW.Trod enc Try.prog W' 0 (fun b => decide (b < W.heap.size)) true 29 v0 d0 p0 :=
    fun W' hn => Below.trod laid_out rd_B (of_decide_eq_true (by kernel_rfl)) h0 hn hlt0
  obtain ⟨A0, c0, l0, rfl, hr0, hm0⟩ := open_B (hval 0 29 v0 rfl rfl) h0 hlt0
  refine (walk_FnUnder W A0 c0 l0 hr0 hm0).mono fun e W' ⟨he, hb⟩ => ?_
  subst he
  exact ⟨_, rfl, _, _, _, [], (p0 ++ []), [], hW', (trodAll_cons_mk (shut_bool Try.underlying4 _) trodAll_mk0), (trodAll_cons_mk (hag0 W' hb) trodAll_mk0), rfl, hb.frame _, fun h => by cases h⟩

theorem over_FnUnder : Rows.fnUnderRow.holds Try.pinned (OpenSpec.ofChange Rows.fnUnderSpec) :=
  OpenClaim.holds_of_wide 11 Try.f11 rfl rfl rfl rfl rfl rfl rfl ⟨rfl, rfl, rfl, rfl, rfl⟩ rfl rfl rfl rfl rfl (by kernel_rfl) Try.func11 (by kernel_rfl)
    (of_decide_eq_true (by kernel_rfl)) (by unfold Func.isWrapper; first | (rw [if_pos (by decide +kernel)]; kernel_rfl) | (rw [if_neg (by decide +kernel)]; exact ⟨rfl, rfl⟩))
    (fun os started H enc _ => lifted_FnUnder os started H enc)

theorem holds_FnUnder : Rows.FnUnderSaid := over_FnUnder
#print axioms holds_FnUnder
end Go.Proofs.Ytjnelfgjglpchaa
