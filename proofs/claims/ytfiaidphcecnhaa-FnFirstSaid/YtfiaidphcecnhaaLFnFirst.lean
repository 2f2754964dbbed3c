/- The law FnFirst returns true for every code. No condition on the input. -/
import Derived.Test.YtfiaidphcecnhaaXD
import Derived.Test.YtfiaidphcecnhaaYC
namespace Go.Proofs.Ytfiaidphcecnhaa
open Go.ChangeShapes Go.WideShapes Go.ChangeAt Go.RowKit

/-- where the first mirror stands -/
theorem first_at {g : List ByteArray} {p : Int} (h : firstB g p = true) : ∃ k, ∃ hk : k < (wayA g p).length, (wayA g p)[k] = firstA g p ∧ (fld g).at_ (firstA g p) ≠ 46 ∧ ∀ j, ∀ hj : j < (wayA g p).length, j < k → (fld g).at_ (wayA g p)[j] = 46 := by
  obtain ⟨x, hx⟩ := Option.isSome_iff_exists.1 (show (firstO g p).isSome = true from h)
  have hA : firstA g p = x := by unfold firstA; rw [hx]; rfl
  rw [hA]
  unfold firstO at hx
  obtain ⟨hp, k, hk, e, hall⟩ := List.find?_eq_some_iff_getElem.1 hx
  refine ⟨k, hk, e, by simpa using hp, fun j hj hjk => ?_⟩
  have := hall j hjk
  simpa using this
theorem first_given {g : List ByteArray} {p : Int} (h : firstB g p = true) : givenB g p = true := by
  cases hb : givenB g p
  · unfold firstB firstO at h
    rw [wayA_no hb] at h; cases h
  · rfl
theorem u8_bne_46 {b : UInt8} (h : b ≠ 46) : ((b.toNat : Int) != 46) = true := by
  rw [bne, u8_46, beq_eq_false_iff_ne.2 h]; rfl
theorem u8_bne_46' {b : UInt8} (h : b = 46) : ((b.toNat : Int) != 46) = false := by
  rw [h]; rfl

set_option maxHeartbeats 3200000 in
theorem walk_FnFirst (w : World) (A : Option Addr) (c : Nat) (l : List UInt8) (hr : Rd w w.heap.size A (bv l)) (hm : l.length ≤ c ∧ l.length ≤ maxLen) :
    Calls Try.prog 8 #[.slice A l.length c] w fun e w' => e = .returned (.bool true) ∧ Below w.heap.size w w' := by
  by_cases hl : 1048576 < l.length
  · go_enter Try.func8, Try.ntmps8
    go_wp2
    go_ret
    exact ⟨rfl, Below.refl _ _⟩
  have hlb : decide ((1048576 : Int) < (l.length : Int)) = false := decide_eq_false (by omega)
  clear hl
  go_enter Try.func8, Try.ntmps8
  go_wp2_with fail
  refine (DrawBeamFirst_any l A c _ hr hm).mono ?_
  rintro e w1 ⟨g, A1, c1, p, rfl, hg, hgz, hp, hb, hcp⟩
  obtain ⟨hlo, hhi, hsz⟩ := hgz
  have hgm : g.length ≤ maxLen := by unfold maxLen; omega
  have hgs : ∀ s ∈ g, s.size ≤ maxLen := fun s hs => by have := hsz s hs; unfold maxLen; omega
  clear hr hlb hcp hsz
  have HI := Lib.hid (iBeamFirst_any A1 c1 g p w1 hg hgm hgs)
  have HS := Lib.hid (fun (w : World) (h : Rd w w.heap.size A1 (sv g)) => sBeamFirst_any A1 c1 g p w h hgm hgs)
  obtain ⟨K, hK⟩ : ∃ K, firstA g p = K := ⟨_, rfl⟩
  have HK := Lib.hid hK
  obtain ⟨b, hbB⟩ : ∃ b, firstB g p = b := ⟨_, rfl⟩
  have HB := Lib.hid hbB
  rw [hK, hbB] at HI
  simp only [hK, hbB] at HS
  clear hK hbB
  go_wp2_with fail
  refine HI.out.mono ?_
  rintro e w2 ⟨rfl, hb2⟩
  have hg2 := hg.later hb2
  have hbb2 := below_next hb hb2
  have HS2 := Lib.hid (HS.out _ hg2)
  clear HI HS hg hb hb2
  go_wp2_with fail
  refine HS2.out.mono ?_
  rintro e w3 ⟨rfl, hb3⟩
  have hg3 := hg2.later hb3
  have hbb3 := below_next hbb2 hb3
  clear HS2 hg2 hbb2 hb3
  have hkk : ((K : Int) == (K : Int)) = true := beq_self_eq_true _
  have hkn : ((K : Int) != (K : Int)) = false := by simp
  cases b
  · clear hkk
    go_wp2
    go_ret
    exact ⟨rfl, hbb3⟩
  have hgv := first_given HB.out
  have hgB := (givenB_iff.1 hgv).1
  have h1 := iBeamWay_any A1 c1 g p w3 hg3 hgm hgs
  have h2 := fun (w : World) (k : Rd w w.heap.size A1 (sv g)) => iBeamTurns_any A1 c1 g p w k hgm hgs
  rw [hgv] at h1
  simp only [hgv] at h2
  have ht := firstB_turns g p
  rw [HB.out] at ht
  have htp : 0 < turnsA g p := by simpa using ht.symm
  obtain ⟨f, hf, hfe, hfm, hfall⟩ := first_at HB.out
  have hin := fun x (hx : x ∈ wayA g p) => (way_mem hx).2
  rw [HK.out] at hfe hfm
  have hw100 := wayA_len g p
  generalize turnsA g p = T at *
  generalize wayA g p = way at *
  obtain ⟨gl1, gl2⟩ := grid_len hgB
  obtain ⟨gw1, gw2⟩ := grid_width hgB
  obtain ⟨b, off, rfl, hbb, _⟩ := hg3.at_ (sv_get g 0 (by omega))
  have HG := Lib.hid hgB
  have H2 := Lib.hid h2
  have HIN := Lib.hid hin
  have HFM := Lib.hid hfm
  have HFA := Lib.hid hfall
  have HFE := Lib.hid hfe
  have hT1 : (1 : Int) ≤ (T : Int) := by omega
  clear h2 hin hfm hfall hfe hgs hgB hgv ht htp
  have H1 := Lib.hid h1
  clear h1
  go_wp2_with fail
  refine H1.out.mono ?_
  rintro e w4 ⟨A4, c4, rfl, ho4, hb4⟩
  have hz4 : w3.heap.size ≤ w4.heap.size := hb4.size
  have hg4 := hg3.later hb4
  have hx4 := Rd.of_own ho4
  have hbb4 := below_next hbb3 hb4
  rw [ni_length]
  clear H1 ho4 hb4 hg3 hbb3
  have H2' := Lib.hid (H2.out _ hg4)
  go_wp2_with fail
  refine H2'.out.mono ?_
  rintro e w5 ⟨rfl, hb5⟩
  have hbw5 : b < w5.heap.size := Nat.lt_of_lt_of_le hbb (Nat.le_trans hz4 hb5.size)
  have hg5 := hg4.later hb5
  have hbb5 := below_next hbb4 hb5
  have HX := Lib.hid (hx4.later hb5)
  have HR := Lib.hid hg5
  have HBB := Lib.hid hbb5
  obtain ⟨s0, hc0, hz0⟩ : ∃ s0 : ByteArray, w5.cell? ⟨b, off, none⟩ = some (.string s0) ∧ s0.size = width g := ⟨g[0], by have := hg5.cell (sv_get g 0 (by omega)); rw [Nat.add_zero] at this; exact this, grid_row HG.out 0 (by omega)⟩
  have HZ := Lib.hid hz0
  have hz5 : s0.size ≤ 5 := by omega
  have hnz : ¬ (s0.size = 0) := by omega
  have hpos : 0 < g.length := by omega
  clear H2' H2 hb5 hg4 hg5 hx4 hbb4 hbb5 hz0 gw1 gw2
  -- a cell of the grid, as the program reads it
  have hcell : ∀ x, x < cellsN g → ∃ (r cc : Nat) (row : ByteArray) (hcl : cc < row.size), r < g.length ∧ r < 5 ∧ cc < 5 ∧ Hid ((x : Int).tdiv (s0.size : Int) = (r : Int)) ∧ Hid ((x : Int).tmod (s0.size : Int) = (cc : Int)) ∧ w5.cell? ⟨b, off + r, none⟩ = some (.string row) ∧ row.size ≤ 5 ∧ Hid ((fld g).at_ x = row[cc]) := by
    intro x hx
    obtain ⟨h1, h2⟩ := cell_rc HG.out hx
    have hrow := grid_row HG.out (x / width g) h1
    refine ⟨x / width g, x % width g, g[x / width g], by rw [hrow]; exact h2, h1, by omega, by have := (grid_width HG.out).2; omega, ?_, ?_, HR.out.cell (sv_get g _ h1), by rw [hrow]; have := (grid_width HG.out).2; omega, ?_⟩
    · show (x : Int).tdiv (s0.size : Int) = ((x / width g : Nat) : Int)
      rw [HZ.out]; rfl
    · show (x : Int).tmod (s0.size : Int) = ((x % width g : Nat) : Int)
      rw [HZ.out]; rfl
    · exact cellAt_eq h1 (by rw [hrow]; exact h2)
  have HCELL := Lib.hid hcell
  clear hcell
  go_wp2
  go_loopw [14] (fun i wr => ∃ (k : Nat), k ≤ f ∧ i = .int .i64 k ∧ Hid (Dr w5 wr)) (fun i _ => f - (intOf i).toNat)
  case atStart => exact ⟨0, Nat.zero_le _, rfl, Dr.refl _⟩
  case round =>
    obtain ⟨i, hi, rfl, HD⟩ := hrel
    have hil : i < way.length := by omega
    obtain ⟨b1, o1, hA1, hb1, x1⟩ := (HX.out.below (HD.out.below _)).at_ (niv_get way i hil)
    subst hA1
    obtain ⟨r, cc, row, hcl, hrg, hr5, hc5, D1, D2, hcr, hz, HAT⟩ := HCELL.out way[i] (HIN.out _ (List.getElem_mem hil))
    have hc0' : wr.cell? ⟨b, off, none⟩ = some (.string s0) := by rw [(HD.out.below w5.heap.size).cell (p := ⟨b, off, none⟩) hbw5]; exact hc0
    have hcr' : wr.cell? ⟨b, off + r, none⟩ = some (.string row) := by rw [(HD.out.below w5.heap.size).cell (p := ⟨b, off + r, none⟩) hbw5]; exact hcr
    have hdd1 := D1.out
    have hdd2 := D2.out
    have hwr0 : IntKind.i64.wrap (r : Int) = (r : Int) := IntWalk.i64_in _ (by omega)
    by_cases hif : i = f
    · have hxe : way[i] = K := by have := HFE.out; subst hif; exact this
      rw [hxe] at x1 hdd1 hdd2 HAT
      have hne : ((row[cc].toNat : Int) != 46) = true := u8_bne_46 (by rw [← HAT.out]; exact HFM.out)
      clear hif hxe
      go_wp2_with fail
      go_quiet (fail)
      go_wp2
      go_ret
      exact ⟨rfl, below_next HBB.out ((HD.out.drewN _).below _)⟩
    · have hlt : i < f := by omega
      have hem : (fld g).at_ way[i] = 46 := HFA.out i hil hlt
      have hxne : way[i] ≠ K := by intro e; rw [e] at hem; exact HFM.out hem
      have hne : ((row[cc].toNat : Int) != 46) = false := u8_bne_46' (by rw [← HAT.out]; exact hem)
      generalize way[i] = x at *
      have hxb := int_beq_no hxne
      clear hem hxne hif
      go_wp2_with fail
      go_quiet (fail)
      go_wp2
      go_roundw
      case rel => exact ⟨i + 1, by omega, by go_num, HD.out.drewN _⟩
      case measure => simp [intOf]; omega
set_option maxRecDepth 100000 in
theorem lifted_FnFirst (os : Os) (started : os.Started) (H : Type) (enc : TypeId × Value → H) :
    ReturnsInHanded {} Try.checked os 8 .any (Rows.fnFirstSpec.pre6 enc Try.prog Try.f8 Rows.fnFirstRow.domain false) (Rows.fnFirstSpec.post enc Try.prog Try.f8 false true false false) := by
  refine returnsInHanded_of_change (C := Try.checked) own_knob started (by kernel_rfl) Try.func8
    (ChangeSpec.witness6 (enc := enc) (C := Try.checked) false ⟨#[], #[.slice none 0 0], []⟩ 8 (by kernel_rfl) (by kernel_rfl) (by kernel_rfl) (by kernel_rfl)) ?_
  intro W base args ds gs before hval0 hW hcnd _
  have hval : ∀ (j : Nat) t v, Try.f8.params[j]? = some t → args[j]? = some v → Value.okWide Try.prog W .any base t v := hval0
  have hW' := hW
  obtain ⟨p, q, hA0, hV, rfl, hfz, hnd⟩ := hW
  have hA : DataW.TrodAll enc Try.prog W 0 (fun _ => true) true Try.f8.params.toList args.toList ds p := hA0
  rw [Try.params8] at hA hval
  obtain ⟨v0, vs0, d0, ds0, p0, q0, hargs, rfl, rfl, h0, r0⟩ := trodAll_cons hA
  obtain ⟨rfl, rfl, rfl⟩ := trodAll_nil r0
  obtain rfl : args = #[v0] := by cases args; simp_all
  obtain ⟨rfl, rfl⟩ := trodVars_none hV
  clear hA0 hval0
  simp only [List.append_nil] at hW'
  have hlt : ∀ x ∈ (p0 ++ []), x.block < W.heap.size := fun x hx => hW'.lt x (by simpa using hx)
  have hlt0 : ∀ x ∈ p0, x.block < W.heap.size := fun x hx => hlt x (by simp [hx])
  have hag0 : ∀ (W' : World), Below W.heap.size W W' → DataW.Trod enc Try.prog W' 0 (fun b => decide (b < W.heap.size)) true 32 v0 d0 p0 :=
    fun W' hn => Below.trod laid_out rd_B (of_decide_eq_true (by kernel_rfl)) h0 hn hlt0
  obtain ⟨A0, c0, l0, rfl, hr0, hm0⟩ := open_B (hval 0 32 v0 rfl rfl) h0 hlt0
  refine (walk_FnFirst W A0 c0 l0 hr0 hm0).mono fun e W' ⟨he, hb⟩ => ?_
  subst he
  exact ⟨_, rfl, _, _, _, [], (p0 ++ []), [], hW', (trodAll_cons_mk (shut_bool Try.underlying4 _) trodAll_mk0), (trodAll_cons_mk (hag0 W' hb) trodAll_mk0), rfl, hb.frame _, fun h => by cases h⟩

theorem over_FnFirst : Rows.fnFirstRow.holds Try.pinned (OpenSpec.ofChange Rows.fnFirstSpec) :=
  OpenClaim.holds_of_wide 8 Try.f8 rfl rfl rfl rfl rfl rfl rfl ⟨rfl, rfl, rfl, rfl, rfl⟩ rfl rfl rfl rfl rfl (by kernel_rfl) Try.func8 (by kernel_rfl)
    (of_decide_eq_true (by kernel_rfl)) (by unfold Func.isWrapper; first | (rw [if_pos (by decide +kernel)]; kernel_rfl) | (rw [if_neg (by decide +kernel)]; exact ⟨rfl, rfl⟩))
    (fun os started H enc _ => lifted_FnFirst os started H enc)

theorem holds_FnFirst : Rows.FnFirstSaid := over_FnFirst
#print axioms holds_FnFirst
end Go.Proofs.Ytfiaidphcecnhaa
