/- The law FnCount returns true for every code. No condition on the input. -/
import Derived.Test.YtjnelfgjglpchaaZ
import Derived.Test.YtjnelfgjglpchaaJ
namespace Go.Proofs.Ytjnelfgjglpchaa
open Go.ChangeShapes Go.WideShapes Go.ChangeAt Go.RowKit

theorem ex_dot (b : UInt8) : (ex b != 46) = (b != 46) := by
  unfold ex
  repeat' split
  all_goals simp_all
theorem cntL_map (l : List UInt8) : cntL (· != 46) (l.map ex) = cntL (· != 46) l := by
  induction l with
  | nil => rfl
  | cons b l ih =>
    unfold cntL at ih ⊢
    rw [List.map_cons, List.filter_cons, List.filter_cons, ex_dot]
    split
    · rw [List.length_cons, List.length_cons, ih]
    · exact ih
theorem other_map {g : List ByteArray} (hg : gridB g = true) : gOther g = g.map fun s => bs (s.toList.map ex) := by
  refine List.ext_getElem (by rw [other_len, List.length_map]) fun r h1 h2 => ?_
  have hr : r < g.length := by rw [other_len] at h1; exact h1
  have e : (gOther g)[r] = bs (rowOf (width g) fun c => ex (cellAt g r c)) := mkG_getElem _ _ _ _ _
  rw [e, List.getElem_map, ← row_self hg r hr, bs_toList]
  congr 1
  unfold rowOf
  rw [List.map_map]; rfl
theorem mirrors_other {g : List ByteArray} (hg : gridB g = true) : mirrors (gOther g) = mirrors g := by
  rw [other_map hg]
  unfold mirrors cntG
  rw [List.map_map]
  congr 1
  refine List.map_congr_left fun s _ => ?_
  show cntL _ (bs (s.toList.map ex)).toList = _
  rw [bs_toList, cntL_map]

set_option maxHeartbeats 1600000 in
theorem walk_FnCount (w : World) (A : Option Addr) (c : Nat) (l : List UInt8) (hr : Rd w w.heap.size A (bv l)) (hm : l.length ≤ c ∧ l.length ≤ maxLen) :
    Calls Try.prog 10 #[.slice A l.length c] w fun e w' => e = .returned (.bool true) ∧ Below w.heap.size w w' := by
  by_cases hl : 1048576 < l.length
  · go_enter Try.func10, Try.ntmps10
    go_wp2
    go_ret
    exact ⟨rfl, Below.refl _ _⟩
  have hlb : decide ((1048576 : Int) < (l.length : Int)) = false := decide_eq_false (by omega)
  clear hl
  go_enter Try.func10, Try.ntmps10
  go_wp2_with fail
  refine (DrawGridCount_any l A c _ hr hm).mono ?_
  rintro e w1 ⟨g, A1, c1, rfl, hg, hlo, hhi, hsz, hb, hcp⟩
  have hgm : g.length ≤ maxLen := by unfold maxLen; omega
  have hgs : ∀ s ∈ g, s.size ≤ maxLen := fun s hs => by have := hsz s hs; unfold maxLen; omega
  clear hr hlb hcp
  obtain ⟨b, hbB⟩ : ∃ b, gridB g = b := ⟨_, rfl⟩
  obtain ⟨k, hk⟩ : ∃ k, countR g = k := ⟨_, rfl⟩
  have hi := iGridCount_any A1 c1 g w1 _ hg hgm hgs
  have hsS := fun (w : World) (h : Rd w w.heap.size A1 (sv g)) => sGridCount_any A1 c1 g w _ h hgm hgs
  rw [hbB, hk] at hi
  simp only [hbB, hk] at hsS
  have HI := Lib.hid hi
  have HS := Lib.hid hsS
  have HB := Lib.hid hbB
  have HK := Lib.hid hk
  clear hi hsS hbB hk
  go_wp2_with fail
  refine HI.out.mono ?_
  rintro e w2 ⟨rfl, rfl⟩
  clear HI
  go_wp2_with fail
  refine (HS.out _ hg).mono ?_
  rintro e w3 ⟨rfl, hd⟩
  have hg3 := hg.later (hd.below _)
  have hbb3 := below_next hb (hd.below _)
  clear HS hg hb hd
  cases b
  · go_wp2
    go_ret
    exact ⟨rfl, hbb3⟩
  have H1 := Lib.hid (iGridOther_yes A1 c1 g w3 HB.out hg3)
  go_wp2_with fail
  refine H1.out.mono ?_
  rintro e w4 ⟨A4, c4, rfl, hown, hb4⟩
  have hg4 := hg3.later hb4
  have ho4 := Rd.of_own hown
  have hbb4 := below_next hbb3 hb4
  clear hown H1 hb4 hg3 hbb3
  have hs4 := small_of (.inr (grid_other HB.out))
  have h2 := iGridCount_any A4 c4 (gOther g) w4 _ ho4 hs4.1 hs4.2
  have hcR : countR (gOther g) = k := by
    rw [← HK.out]; unfold countR; rw [grid_other HB.out, HB.out, mirrors_other HB.out]
  rw [hcR, grid_other HB.out] at h2
  have H2 := Lib.hid h2
  clear h2 hs4 hcR
  go_wp2_with fail
  refine H2.out.mono ?_
  rintro e w5 ⟨rfl, rfl⟩
  clear H2
  have h1 := grid_len HB.out
  obtain ⟨s0, hs0⟩ : ∃ s0, g[0] = s0 := ⟨_, rfl⟩
  have hz0 : s0.size = width g := by rw [← hs0]; exact grid_row HB.out 0 (by omega)
  have hzb : s0.size ≤ 5 := by rw [hz0]; exact (grid_width HB.out).2
  have hmb := mul_bd hhi hzb
  have hfull : ((k : Int) == (g.length : Int) * (s0.size : Int)) = fullB g := by
    have e : k = mirrors g := by rw [← HK.out]; unfold countR; rw [HB.out]; rfl
    have e2 : (g.length : Int) * (s0.size : Int) = (cellsN g : Int) := by rw [hz0]; unfold cellsN; rw [Int.natCast_mul]
    rw [e, e2]
    unfold fullB
    rw [HB.out, Bool.true_and, Bool.eq_iff_iff, beq_iff_eq, beq_iff_eq]
    omega
  have hF := fun (w : World) (h : Rd w w.heap.size A1 (sv g)) => iGridFull_any A1 c1 g w _ h hgm hgs
  have hkk : ((k : Int) == (k : Int)) = true := beq_self_eq_true _
  obtain ⟨q, hq⟩ : ∃ q, fullB g = q := ⟨_, rfl⟩
  rw [hq] at hfull
  simp only [hq] at hF
  have HF := Lib.hid hF
  obtain ⟨b0, off0, rfl, hb0, hc0⟩ := hg4.at_ (sv_get g 0 (by omega))
  rw [hs0, Nat.add_zero] at hc0
  have HG4 := Lib.hid hg4
  clear hq hF hz0 hs0 hg4 ho4 hgs hsz
  cases q
  all_goals
    go_wp2
    go_quiet ((go_at_call 45; refine qsame (HF.out _ (HG4.out.below (below_drewN _ _ _)))))
    go_wp2
    go_ret
    exact ⟨rfl, hbb4.trans ((below_drewN _ _ _).mono hbb4.size)⟩
set_option maxRecDepth 100000 in
theorem lifted_FnCount (os : Os) (started : os.Started) (H : Type) (enc : TypeId × Value → H) :
    ReturnsInHanded {} Try.checked os 10 .any (Rows.fnCountSpec.pre6 enc Try.prog Try.f10 Rows.fnCountRow.domain false) (Rows.fnCountSpec.post enc Try.prog Try.f10 false true false false) := by
  refine returnsInHanded_of_change (C := Try.checked) own_knob started (by kernel_rfl) Try.func10
    (ChangeSpec.witness6 (enc := enc) (C := Try.checked) false ⟨#[], #[.slice none 0 0], []⟩ 8 (by kernel_rfl) (by kernel_rfl) (by kernel_rfl) (by kernel_rfl)) ?_
  intro W base args ds gs before hval0 hW hcnd _
  have hval : ∀ (j : Nat) t v, Try.f10.params[j]? = some t → args[j]? = some v → Value.okWide Try.prog W .any base t v := hval0
  have hW' := hW
  obtain ⟨p, q, hA0, hV, rfl, hfz, hnd⟩ := hW
  have hA : DataW.TrodAll enc Try.prog W 0 (fun _ => true) true Try.f10.params.toList args.toList ds p := hA0
  rw [Try.params10] at hA hval
  obtain ⟨v0, vs0, d0, ds0, p0, q0, hargs, rfl, rfl, h0, r0⟩ := trodAll_cons hA
  obtain ⟨rfl, rfl, rfl⟩ := trodAll_nil r0
  obtain rfl : args = #[v0] := by cases args; simp_all
  obtain ⟨rfl, rfl⟩ := trodVars_none hV
  clear hA0 hval0
  simp only [List.append_nil] at hW'
  have hlt : ∀ x ∈ (p0 ++ []), x.block < W.heap.size := fun x hx => hW'.lt x (by simpa using hx)
  have hlt0 : ∀ x ∈ p0, x.block < W.heap.size := fun x hx => hlt x (by simp [hx])
  have hag0 : ∀ (W' : World), Below W.heap.size W W' → DataW.Trod enc Try.prog W' 0 (fun b => decide (b < W.heap.size)) true 29 v0 d0 p0 :=
    fun W' hn => Below.trod laid_out rd_B (of_decide_eq_true (by kernel_rfl)) h0 hn hlt0
  obtain ⟨A0, c0, l0, rfl, hr0, hm0⟩ := open_B (hval 0 29 v0 rfl rfl) h0 hlt0
  refine (walk_FnCount W A0 c0 l0 hr0 hm0).mono fun e W' ⟨he, hb⟩ => ?_
  subst he
  exact ⟨_, rfl, _, _, _, [], (p0 ++ []), [], hW', (trodAll_cons_mk (shut_bool Try.underlying4 _) trodAll_mk0), (trodAll_cons_mk (hag0 W' hb) trodAll_mk0), rfl, hb.frame _, fun h => by cases h⟩

theorem over_FnCount : Rows.fnCountRow.holds Try.pinned (OpenSpec.ofChange Rows.fnCountSpec) :=
  OpenClaim.holds_of_wide 10 Try.f10 rfl rfl rfl rfl rfl rfl rfl ⟨rfl, rfl, rfl, rfl, rfl⟩ rfl rfl rfl rfl rfl (by kernel_rfl) Try.func10 (by kernel_rfl)
    (of_decide_eq_true (by kernel_rfl)) (by unfold Func.isWrapper; first | (rw [if_pos (by decide +kernel)]; kernel_rfl) | (rw [if_neg (by decide +kernel)]; exact ⟨rfl, rfl⟩))
    (fun os started H enc _ => lifted_FnCount os started H enc)

theorem holds_FnCount : Rows.FnCountSaid := over_FnCount
#print axioms holds_FnCount
end Go.Proofs.Ytjnelfgjglpchaa
