/- The law FnGrid returns true for every code. No condition on the input. -/
import Derived.Test.YtjnelfgjglpchaaX
import Derived.Test.YtjnelfgjglpchaaY
namespace Go.Proofs.Ytjnelfgjglpchaa
open Go.ChangeShapes Go.WideShapes Go.ChangeAt Go.RowKit

set_option maxHeartbeats 1600000 in
theorem walk_FnGrid (w : World) (A : Option Addr) (c : Nat) (l : List UInt8) (hr : Rd w w.heap.size A (bv l)) (hm : l.length ≤ c ∧ l.length ≤ maxLen) :
    Calls Try.prog 5 #[.slice A l.length c] w fun e w' => e = .returned (.bool true) ∧ Below w.heap.size w w' := by
  by_cases hl : 1048576 < l.length
  · go_enter Try.func5, Try.ntmps5
    go_wp2
    go_ret
    exact ⟨rfl, Below.refl _ _⟩
  have hlb : decide ((1048576 : Int) < (l.length : Int)) = false := decide_eq_false (by omega)
  clear hl
  go_enter Try.func5, Try.ntmps5
  go_wp2_with fail
  refine (DrawGridIn_any l A c _ hr hm).mono ?_
  rintro e w1 ⟨g, A1, c1, rfl, hg, hlo, hhi, hsz, hb, hcp⟩
  have hgm : g.length ≤ maxLen := by unfold maxLen; omega
  have hgs : ∀ s ∈ g, s.size ≤ maxLen := fun s hs => by have := hsz s hs; unfold maxLen; omega
  clear hr hlb
  go_wp2_with fail
  refine (iGridIn_any A1 c1 g _ _ hg hgm hgs).mono ?_
  rintro e w2 ⟨rfl, rfl⟩
  go_wp2_with fail
  refine (sGridIn_any A1 c1 g _ _ hg hgm hgs).mono ?_
  rintro e w2 ⟨rfl, hd⟩
  have hg2 := hg.later (hd.below _)
  have hb2 := hb.trans ((hd.below w1.heap.size).mono hb.size)
  clear hb hd hg
  cases hgB : gridB g
  · go_wp2
    go_ret
    exact ⟨rfl, hb2⟩
  have h1 := grid_len hgB
  have h2 := grid_width hgB
  have hT := iGridTurn_any A1 c1 g w2 hg2 hgm hgs
  rw [hgB, orNone_yes] at hT
  have HT := Lib.hid hT
  have HGB := Lib.hid hgB
  clear hT hgB
  go_wp2_with fail
  refine HT.out.mono ?_
  rintro e w3 ⟨A3, c3, rfl, hown, hb3⟩
  have hg3 := hg2.later hb3
  have ht3 := Rd.of_own hown
  have hb4 := hb2.trans (hb3.mono hb2.size)
  have hI1 := fun (w : World) (B : Nat) (h : Rd w B A3 (sv (gTurn g))) => iGridIn_any A3 c3 (gTurn g) w B h (by rw [turn_len]; unfold maxLen; omega) (fun s hs => by have := grid_small (grid_turn HGB.out) s hs; unfold maxLen; omega)
  rw [grid_turn HGB.out] at hI1
  have hI2 := hI1 _ _ ht3
  have HI := Lib.hid hI2
  clear hI1 hI2 hown HT hb3 hb2 hg2
  go_wp2_with fail
  refine HI.out.mono ?_
  rintro e w4 ⟨rfl, rfl⟩
  clear HI
  by_cases h11 : g.length = 1
  · have hl1 : ((g.length : Int) == 1) = true := by rw [h11]; rfl
    clear h11
    go_wp2
    go_ret
    exact ⟨rfl, hb4⟩
  have hl1 : ((g.length : Int) == 1) = false := beq_eq_false_iff_ne.2 (by omega)
  have HM := Lib.hid hgm
  obtain ⟨k, hk⟩ : ∃ k : Nat, (g.length : Int) - 1 = (k : Int) := ⟨g.length - 1, by omega⟩
  have hlen : (g.take k).length = k := by rw [List.length_take]; omega
  have hsv : sv (g.take k) = (sv g).take k := List.map_take
  have hI3 := iGridIn_any A1 c1 (g.take k) w3 _ (by rw [hsv]; exact hg3.take k) (by rw [hlen]; unfold maxLen; omega) (fun s hs => hgs s (List.mem_of_mem_take hs))
  rw [grid_take HGB.out (by omega) (by omega), hlen] at hI3
  have HI := Lib.hid hI3
  clear hI3 hsv hlen
  have hkc : k ≤ c1 := by omega
  go_wp2_with fail
  refine HI.out.mono ?_
  rintro e w4 ⟨rfl, rfl⟩
  clear HI
  go_wp2
  go_ret
  exact ⟨rfl, hb4⟩
set_option maxRecDepth 100000 in
theorem lifted_FnGrid (os : Os) (started : os.Started) (H : Type) (enc : TypeId × Value → H) :
    ReturnsInHanded {} Try.checked os 5 .any (Rows.fnGridSpec.pre6 enc Try.prog Try.f5 Rows.fnGridRow.domain false) (Rows.fnGridSpec.post enc Try.prog Try.f5 false true false false) := by
  refine returnsInHanded_of_change (C := Try.checked) own_knob started (by kernel_rfl) Try.func5
    (ChangeSpec.witness6 (enc := enc) (C := Try.checked) false ⟨#[], #[.slice none 0 0], []⟩ 8 (by kernel_rfl) (by kernel_rfl) (by kernel_rfl) (by kernel_rfl)) ?_
  intro W base args ds gs before hval0 hW hcnd _
  have hval : ∀ (j : Nat) t v, Try.f5.params[j]? = some t → args[j]? = some v → Value.okWide Try.prog W .any base t v := hval0
  have hW' := hW
  obtain ⟨p, q, hA0, hV, rfl, hfz, hnd⟩ := hW
  have hA : DataW.TrodAll enc Try.prog W 0 (fun _ => true) true Try.f5.params.toList args.toList ds p := hA0
  rw [Try.params5] at hA hval
  obtain ⟨v0, vs0, d0, ds0, p0, q0, hargs, rfl, rfl, h0, r0⟩ := trodAll_cons hA
  obtain ⟨rfl, rfl, rfl⟩ := trodAll_nil r0
  obtain rfl : args = #[v0] := by cases args; simp_all
  obtain ⟨rfl, rfl⟩ := trodVars_none hV
  clear hA0 hval0
  simp only [List.append_nil] at hW'
  have hlt : ∀ x ∈ (p0 ++ []), x.block < W.heap.size := fun x hx => hW'.lt x (by simpa using hx)
  have hlt0 : ∀ x ∈ p0, x.block < W.heap.size := fun x hx => hlt x (by simp [hx])
  have hag0 : ∀ (W' : World), Below W.heap.size W W' → DataW.Trod enc Try.prog W' 0 (fun b => decide (b < W.heap.size)) true 29 v0 d0 p0 :=
    fun W' hn => Below.trod laid_out rd_B (of_decide_eq_true (by kernel_rfl)) h0 hn hlt0
  obtain ⟨A0, c0, l0, rfl, hr0, hm0⟩ := open_B (hval 0 29 v0 rfl rfl) h0 hlt0
  refine (walk_FnGrid W A0 c0 l0 hr0 hm0).mono fun e W' ⟨he, hb⟩ => ?_
  subst he
  exact ⟨_, rfl, _, _, _, [], (p0 ++ []), [], hW', (trodAll_cons_mk (shut_bool Try.underlying4 _) trodAll_mk0), (trodAll_cons_mk (hag0 W' hb) trodAll_mk0), rfl, hb.frame _, fun h => by cases h⟩

theorem over_FnGrid : Rows.fnGridRow.holds Try.pinned (OpenSpec.ofChange Rows.fnGridSpec) :=
  OpenClaim.holds_of_wide 5 Try.f5 rfl rfl rfl rfl rfl rfl rfl ⟨rfl, rfl, rfl, rfl, rfl⟩ rfl rfl rfl rfl rfl (by kernel_rfl) Try.func5 (by kernel_rfl)
    (of_decide_eq_true (by kernel_rfl)) (by unfold Func.isWrapper; first | (rw [if_pos (by decide +kernel)]; kernel_rfl) | (rw [if_neg (by decide +kernel)]; exact ⟨rfl, rfl⟩))
    (fun os started H enc _ => lifted_FnGrid os started H enc)

theorem holds_FnGrid : Rows.FnGridSaid := over_FnGrid
#print axioms holds_FnGrid
end Go.Proofs.Ytjnelfgjglpchaa
