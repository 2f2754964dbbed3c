/- The law FnLength returns true for every code. No condition on the input. -/
import Derived.Test.YtfiaidphcecnhaaXD
import Derived.Test.YtfiaidphcecnhaaYC
import Derived.Test.YtfiaidphcecnhaaBK
namespace Go.Proofs.Ytfiaidphcecnhaa
open Go.ChangeShapes Go.WideShapes Go.ChangeAt Go.RowKit

theorem sides_sum {g : List ByteArray} {p : Int} (h : givenB g p = true) : (sidesA g p).sum = lenA g p ∧ (sidesA g p).length = 4 := by
  obtain ⟨k, rfl, hk, hg⟩ := given_nat h
  obtain ⟨he, _⟩ := ends_B hg hk
  have hd := dirs_lt (Fd.enter_ok (grid_hn hg) (grid_hm hg) (by rw [ports_fld]; exact hk)) he.on
  rw [sidesA_yes h]
  refine ⟨?_, cnts_length _ _⟩
  have h1 := length_often 4 _ hd
  rw [dirsN_length] at h1
  unfold lenA
  rw [wayA_yes h, Fd.way_length]
  exact h1.symm

set_option maxHeartbeats 1600000 in
theorem walk_FnLength (w : World) (A : Option Addr) (c : Nat) (l : List UInt8) (hr : Rd w w.heap.size A (bv l)) (hm : l.length ≤ c ∧ l.length ≤ maxLen) :
    Calls Try.prog 6 #[.slice A l.length c] w fun e w' => e = .returned (.bool true) ∧ Below w.heap.size w w' := by
  by_cases hl : 1048576 < l.length
  · go_enter Try.func6, Try.ntmps6
    go_wp2
    go_ret
    exact ⟨rfl, Below.refl _ _⟩
  have hlb : decide ((1048576 : Int) < (l.length : Int)) = false := decide_eq_false (by omega)
  clear hl
  go_enter Try.func6, Try.ntmps6
  go_wp2_with fail
  refine (DrawBeamLength_any l A c _ hr hm).mono ?_
  rintro e w1 ⟨g, A1, c1, p, rfl, hg, hgz, hp, hb, hcp⟩
  obtain ⟨hlo, hhi, hsz⟩ := hgz
  have hgm : g.length ≤ maxLen := by unfold maxLen; omega
  have hgs : ∀ s ∈ g, s.size ≤ maxLen := fun s hs => by have := hsz s hs; unfold maxLen; omega
  clear hr hlb hcp hsz
  have HI := Lib.hid (iBeamLength_any A1 c1 g p w1 hg hgm hgs)
  have HS := Lib.hid (fun (w : World) (h : Rd w w.heap.size A1 (sv g)) => sBeamLength_any A1 c1 g p w h hgm hgs)
  obtain ⟨K, hK⟩ : ∃ K, lenA g p = K := ⟨_, rfl⟩
  have HK := Lib.hid hK
  obtain ⟨b, hbB⟩ : ∃ b, givenB g p = b := ⟨_, rfl⟩
  have HB := Lib.hid hbB
  rw [hK, hbB] at HI
  simp only [hK, hbB] at HS
  clear hK hbB
  go_wp2_with fail
  refine HI.out.mono ?_
  rintro e w2 ⟨rfl, hb2⟩
  have hg2 := hg.later hb2
  have hbb2 := below_next hb hb2
  have HS2 := Lib.hid (HS.out _ hg2)
  clear HI HS hg hb hb2
  go_wp2_with fail
  refine HS2.out.mono ?_
  rintro e w3 ⟨rfl, hb3⟩
  have hg3 := hg2.later hb3
  have hbb3 := below_next hbb2 hb3
  clear HS2 hg2 hbb2 hb3
  have hkk : ((K : Int) == (K : Int)) = true := beq_self_eq_true _
  have hkn : ((K : Int) != (K : Int)) = false := by simp
  cases b
  · clear hkk
    go_wp2
    go_ret
    exact ⟨rfl, hbb3⟩
  have h1 := iBeamWay_any A1 c1 g p w3 hg3 hgm hgs
  have h2 := fun (w : World) (k : Rd w w.heap.size A1 (sv g)) => iBeamSides_any A1 c1 g p w k hgm hgs
  rw [HB.out] at h1
  simp only [HB.out] at h2
  obtain ⟨hsum, hs4⟩ := sides_sum HB.out
  have hle := lenA_two HB.out
  have hwl : (ni (wayA g p)).length = K := by rw [ni_length]; exact HK.out
  have hgB := (givenB_iff.1 HB.out).1
  have hK100 : K ≤ 100 := by rw [← HK.out]; exact wayA_len g p
  rw [HK.out] at hsum hle
  generalize wayA g p = way at *
  generalize sidesA g p = sides at *
  obtain ⟨gl1, gl2⟩ := grid_len hgB
  obtain ⟨gw1, gw2⟩ := grid_width hgB
  obtain ⟨b, off, rfl, hbb, _⟩ := hg3.at_ (sv_get g 0 (by omega))
  have HCC := Lib.hid (fun (w : World) (k : Rd w w.heap.size (some ⟨b, off, none⟩) (sv g)) => show ∃ s0 : ByteArray, w.cell? ⟨b, off, none⟩ = some (.string s0) ∧ s0.size = width g from ⟨g[0], by have := k.cell (sv_get g 0 (by omega)); rw [Nat.add_zero] at this; exact this, grid_row hgB 0 (by omega)⟩)
  have hcells : (cellsN g : Int) = (g.length : Int) * (width g : Int) := by unfold cellsN; rw [Int.natCast_mul]
  have hmb := mul_bd gl2 gw2
  have hpos : 0 < g.length := by omega
  have HL := Lib.hid hwl
  have HS4 := Lib.hid hs4
  have HSUM := Lib.hid hsum
  have H2 := Lib.hid h2
  have HCE := Lib.hid hcells
  clear hwl hs4 hsum h2 hgs hgB hcells
  have H1 := Lib.hid h1
  clear h1
  go_wp2_with fail
  refine H1.out.mono ?_
  rintro e w4 ⟨A4, c4, rfl, ho4, hb4⟩
  have hg4 := hg3.later hb4
  have hbb4 := below_next hbb3 hb4
  rw [HL.out]
  clear H1 ho4 hb4 hg3 hbb3
  have H2' := Lib.hid (H2.out _ hg4)
  go_wp2_with fail
  refine H2'.out.mono ?_
  rintro e w5 ⟨A5, c5, rfl, ho5, hb5⟩
  have hg5 := hg4.later hb5
  have hbb5 := below_next hbb4 hb5
  have HT := Lib.hid (total_any A5 c5 sides w5 _ (Rd.of_own ho5) (by rw [HS4.out]; omega) (by rw [HSUM.out]; omega))
  rw [ni_length]
  rw [HSUM.out] at HT
  clear H2' H2 ho5 hb5 hg4 hbb4
  obtain ⟨s0, hc0, hz0⟩ := HCC.out _ hg5
  have HZ := Lib.hid hz0
  have hz5 : s0.size ≤ 5 := by omega
  have hfin : (K : Int) ≤ 2 * (g.length : Int) * (s0.size : Int) := by
    rw [hz0, Int.mul_assoc, ← HCE.out]; omega
  have hb0 : 0 ≤ 2 * (g.length : Int) * (s0.size : Int) ∧ 2 * (g.length : Int) * (s0.size : Int) ≤ 50 := by
    rw [hz0, Int.mul_assoc]; omega
  obtain ⟨hb1, hb2⟩ := hb0
  clear hz0 gw1 gw2 hmb
  go_wp2_with fail
  refine HT.out.mono ?_
  rintro e w6 ⟨rfl, rfl⟩
  go_wp2
  go_ret
  exact ⟨rfl, hbb5⟩
set_option maxRecDepth 100000 in
theorem lifted_FnLength (os : Os) (started : os.Started) (H : Type) (enc : TypeId × Value → H) :
    ReturnsInHanded {} Try.checked os 6 .any (Rows.fnLengthSpec.pre6 enc Try.prog Try.f6 Rows.fnLengthRow.domain false) (Rows.fnLengthSpec.post enc Try.prog Try.f6 false true false false) := by
  refine returnsInHanded_of_change (C := Try.checked) own_knob started (by kernel_rfl) Try.func6
    (ChangeSpec.witness6 (enc := enc) (C := Try.checked) false ⟨#[], #[.slice none 0 0], []⟩ 8 (by kernel_rfl) (by kernel_rfl) (by kernel_rfl) (by kernel_rfl)) ?_
  intro W base args ds gs before hval0 hW hcnd _
  have hval : ∀ (j : Nat) t v, Try.f6.params[j]? = some t → args[j]? = some v → Value.okWide Try.prog W .any base t v := hval0
  have hW' := hW
  obtain ⟨p, q, hA0, hV, rfl, hfz, hnd⟩ := hW
  have hA : DataW.TrodAll enc Try.prog W 0 (fun _ => true) true Try.f6.params.toList args.toList ds p := hA0
  rw [Try.params6] at hA hval
  obtain ⟨v0, vs0, d0, ds0, p0, q0, hargs, rfl, rfl, h0, r0⟩ := trodAll_cons hA
  obtain ⟨rfl, rfl, rfl⟩ := trodAll_nil r0
  obtain rfl : args = #[v0] := by cases args; simp_all
  obtain ⟨rfl, rfl⟩ := trodVars_none hV
  clear hA0 hval0
  simp only [List.append_nil] at hW'
  have hlt : ∀ x ∈ (p0 ++ []), x.block < W.heap.size := fun x hx => hW'.lt x (by simpa using hx)
  have hlt0 : ∀ x ∈ p0, x.block < W.heap.size := fun x hx => hlt x (by simp [hx])
  have hag0 : ∀ (W' : World), Below W.heap.size W W' → DataW.Trod enc Try.prog W' 0 (fun b => decide (b < W.heap.size)) true 32 v0 d0 p0 :=
    fun W' hn => Below.trod laid_out rd_B (of_decide_eq_true (by kernel_rfl)) h0 hn hlt0
  obtain ⟨A0, c0, l0, rfl, hr0, hm0⟩ := open_B (hval 0 32 v0 rfl rfl) h0 hlt0
  refine (walk_FnLength W A0 c0 l0 hr0 hm0).mono fun e W' ⟨he, hb⟩ => ?_
  subst he
  exact ⟨_, rfl, _, _, _, [], (p0 ++ []), [], hW', (trodAll_cons_mk (shut_bool Try.underlying4 _) trodAll_mk0), (trodAll_cons_mk (hag0 W' hb) trodAll_mk0), rfl, hb.frame _, fun h => by cases h⟩

theorem over_FnLength : Rows.fnLengthRow.holds Try.pinned (OpenSpec.ofChange Rows.fnLengthSpec) :=
  OpenClaim.holds_of_wide 6 Try.f6 rfl rfl rfl rfl rfl rfl rfl ⟨rfl, rfl, rfl, rfl, rfl⟩ rfl rfl rfl rfl rfl (by kernel_rfl) Try.func6 (by kernel_rfl)
    (of_decide_eq_true (by kernel_rfl)) (by unfold Func.isWrapper; first | (rw [if_pos (by decide +kernel)]; kernel_rfl) | (rw [if_neg (by decide +kernel)]; exact ⟨rfl, rfl⟩))
    (fun os started H enc _ => lifted_FnLength os started H enc)

theorem holds_FnLength : Rows.FnLengthSaid := over_FnLength
#print axioms holds_FnLength
end Go.Proofs.Ytfiaidphcecnhaa
