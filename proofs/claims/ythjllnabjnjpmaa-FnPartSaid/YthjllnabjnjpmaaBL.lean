/-
  CONTRACTS: l3Close, RoundCells of the reference; roundFrom, RoundCells of the program.
-/
import Derived.Test.YthjllnabjnjpmaaBH
import Derived.Test.YthjllnabjnjpmaaPE
import Derived.Laws.StructEq
namespace Go.Proofs.Ythjllnabjnjpmaa
set_option maxRecDepth 100000
open Go.RowKit

/-- the way from s is gone for K steps: it neither leaves nor comes back ahead of the last one; b: it comes back -/
structure Gone (F : Fd) (s : St) (K : Nat) (b : Bool) : Prop where
  pos : 0 < K
  on : ∀ j, j + 1 < K → F.exit (F.go s j) = none ∧ F.go s (j + 1) ≠ s
  last : (b = true ∧ F.exit (F.go s (K - 1)) = none ∧ F.go s K = s) ∨ (b = false ∧ ∃ q, F.exit (F.go s (K - 1)) = some q)
theorem gone_comes {F : Fd} {s : St} {K : Nat} (h : F.Comes s K) : Gone F s K true :=
  ⟨h.pos, fun j hj => ⟨h.on j (by omega), h.first (j + 1) (by omega) hj⟩, .inl ⟨rfl, h.on _ (by have := h.pos; omega), h.back⟩⟩
theorem ends_noback {F : Fd} {s : St} {N q : Nat} (h : F.Ends s N q) {d : Nat} (h0 : 0 < d) (hd : d ≤ N) : F.go s d ≠ s := by
  intro e
  haveI : DecidablePred (fun k => 0 < k ∧ F.go s k = s) := fun _ => Classical.propDecidable _
  obtain ⟨K, k1, k2, k3⟩ := Fd.least_of (P := fun k => 0 < k ∧ F.go s k = s) d ⟨d, Nat.le_refl _, h0, e⟩
  exact Fd.ends_not_comes h (K := K) ⟨k2.1, fun j hj => h.on j (by omega), k2.2, fun j hj hjK e => k3 j hjK ⟨hj, e⟩⟩
theorem gone_ends {F : Fd} {s : St} {N q : Nat} (h : F.Ends s N q) : Gone F s (N + 1) false :=
  ⟨Nat.succ_pos _, fun j hj => ⟨h.on j (by omega), ends_noback h (Nat.succ_pos _) (by omega)⟩, .inr ⟨rfl, q, h.off⟩⟩
theorem cell_div {F : Fd} {s : St} (hs : F.Ok s) : F.cellN s / F.m = s.r ∧ F.cellN s % F.m = s.c := by
  have hm : 0 < F.m := by have := hs.2.1; omega
  unfold Fd.cellN
  refine ⟨?_, ?_⟩
  · rw [Nat.mul_comm, Nat.mul_add_div hm, Nat.div_eq_of_lt hs.2.1]; omega
  · rw [Nat.mul_comm, Nat.mul_add_mod, Nat.mod_eq_of_lt hs.2.1]
theorem cell_25 {g : List ByteArray} (hg : gridB g = true) {s : St} (hs : (fld g).Ok s) : (fld g).cellN s < 25 := by
  have h := Fd.cellN_lt hs
  have h2 := Nat.mul_le_mul (grid_len hg).2 (grid_width hg).2
  have h6 : (fld g).n * (fld g).m = g.length * width g := rfl
  omega

/-- a way has come back, as cells and directions -/
def ClosePost (F : Fd) (s : St) (K : Nat) (b : Bool) (w : World) (e : Ending) (w' : World) : Prop :=
  ∃ A1 c1 A2 c2, e = .returned (.tuple #[.slice A1 K c1, .slice A2 K c2, .bool b]) ∧ w'.ownsRow w.heap.size 3 1 (.slice A1 K c1) K (iv (wayC F s K)) ∧ w'.ownsRow w.heap.size 3 1 (.slice A2 K c2) K (iv (wayD F s K)) ∧ Below w.heap.size w w'

set_option maxRecDepth 100000 in
set_option maxHeartbeats 1600000 in
theorem l3Close_any (A : Option Addr) (cp : Nat) (g : List ByteArray) (S0 : St) (K : Nat) (bb : Bool) (w : World) (hr : Rd w w.heap.size A (sv g)) (hg : gridB g = true) (hs0 : (fld g).Ok S0) (he : Gone (fld g) S0 K bb) (hK : K ≤ 200) :
    Calls Try.prog 56 #[.slice A g.length cp, .int .i64 ((fld g).cellN S0 : Nat), .int .i64 (S0.d : Nat)] w (ClosePost (fld g) S0 K bb w) := by
  obtain ⟨j0, hji, hy0, hy1, hy2⟩ := info_parts infoInt
  obtain ⟨hl1, hl2⟩ := grid_len hg
  obtain ⟨hw1, hw2⟩ := grid_width hg
  obtain ⟨b, off, rfl, hb, _⟩ := hr.at_ (sv_get g 0 (by omega))
  obtain ⟨s0, hc0, hz0⟩ : ∃ s0 : ByteArray, w.cell? ⟨b, off, none⟩ = some (.string s0) ∧ s0.size = width g := ⟨g[0], by have := hr.cell (sv_get g 0 (by omega)); rw [Nat.add_zero] at this; exact this, grid_row hg 0 (by omega)⟩
  have hsz : s0.size ≤ 5 := by omega
  have hsz1 : 1 ≤ s0.size := by omega
  have hpos : 0 < g.length := by omega
  obtain ⟨dv1, dv2⟩ := cell_div hs0
  have hx25 := cell_25 hg hs0
  rw [fld_m, ← hz0] at dv1 dv2
  have hr5' : S0.r < 5 := by have : S0.r < g.length := hs0.1; omega
  have hd4' : S0.d < 4 := hs0.2.2
  have hnz : ¬ (s0.size = 0) := by omega
  have d1 : ((fld g).cellN S0 : Int) / (s0.size : Int) = (S0.r : Int) := by rw [← Int.natCast_ediv, dv1]
  have d2 : ((fld g).cellN S0 : Int) % (s0.size : Int) = (S0.c : Int) := by rw [← Int.natCast_emod, dv2]
  have d3 : ((fld g).cellN S0 : Int).tdiv (s0.size : Int) = (S0.r : Int) := by rw [← d1]; rfl
  have d4 : ((fld g).cellN S0 : Int).tmod (s0.size : Int) = (S0.c : Int) := by rw [← d2]; rfl
  have hwr0 : IntKind.i64.wrap (S0.r : Int) = (S0.r : Int) := IntWalk.i64_in _ (by omega)
  have HCI := Lib.hid (fun t (ht : (fld g).Ok t) (h1 : (fld g).cellN t = (fld g).cellN S0) (h2 : t.d = S0.d) => show t = S0 from Fd.code_inj ht hs0 (by unfold Fd.code; unfold Fd.cellN at h1; omega))
  have HZ := Lib.hid hz0
  have HG := Lib.hid hg
  have HS := Lib.hid hs0
  have HEN := Lib.hid he
  have HR := Lib.hid hr
  have hw2' : (fld g).m ≤ 5 := hw2
  clear hz0 hg hs0 he hr hw1 hw2 dv1 dv2
  obtain ⟨X0, hX0⟩ : ∃ X0, (fld g).cellN S0 = X0 := ⟨_, rfl⟩
  rw [hX0] at d1 d2 d3 d4 hx25 HCI ⊢
  have HX0 := Lib.hid hX0
  clear hX0
  have hkp := HEN.out.pos
  go_enter Try.func56, Try.ntmps56
  have HO1 := Lib.hid ((own_empty w 3).alloc (.cells #[] 3))
  have ho2 := own_mono (own_empty (w.alloc (.cells #[] 3)) 3) (show w.heap.size ≤ _ by simp)
  rw [World.size_alloc] at ho2
  have HO2 := Lib.hid ho2
  clear ho2
  have HB := Lib.hid ((below_alloc1 w (.cells #[] 3)).alloc (by simp) (.cells #[] 3))
  go_wp2
  go_loopw [2, 11, 12, 13, 14] (fun d i k v1 v2 wr => ∃ (j : Nat) (s : St), j < K ∧ i = .int .i64 s.r ∧ k = .int .i64 s.c ∧ d = .int .i64 s.d ∧ Hid (s = (fld g).go S0 j) ∧ Hid (wr.ownsRow w.heap.size 3 1 v1 j (iv (wayC (fld g) S0 j))) ∧
      Hid (wr.ownsRow w.heap.size 3 1 v2 j (iv (wayD (fld g) S0 j))) ∧ Hid (v1.ownBlock ≠ v2.ownBlock) ∧ Hid (Below w.heap.size w wr)) (fun _ _ _ v1 _ _ => K - sliceLen v1)
  case atStart => exact ⟨0, S0, hkp, rfl, rfl, rfl, rfl, HO1.out, HO2.out, by simp [Hid, Value.ownBlock], HB.out⟩
  case round =>
    obtain ⟨j, s, hj, rfl, rfl, rfl, HSJ, HO, HO', HNE, HBW⟩ := hrel
    have hok := Fd.go_ok HS.out (N := j) (fun i hi => (HEN.out.on i (by omega)).1) j (Nat.le_refl _)
    rw [← HSJ.out] at hok
    obtain ⟨r, c, d⟩ := s
    obtain ⟨k1, k2, k3⟩ := hok
    have hsr : r < g.length := k1
    have hsc : c < width g := k2
    have hsd : d < 4 := k3
    clear k1 k2 k3
    have HBW0 := HBW
    have hrr := HR.out.below HBW.out
    obtain ⟨row, hcr, hzr, HL⟩ : ∃ row : ByteArray, wr.cell? ⟨b, off + r, none⟩ = some (.string row) ∧ row.size = width g ∧ Hid (∀ h : c < row.size, cellAt g r c = row[c]) :=
      ⟨g[r], hrr.cell (sv_get g r hsr), grid_row HG.out r hsr, fun h => cellAt_eq hsr h⟩
    have hcc : c < row.size := by omega
    have hzs : row.size = s0.size := by rw [hzr, HZ.out]
    have hc5 : c < 5 := by omega
    have hr5 : r < 5 := by omega
    have hmul := mul_bd (n := r) (m := s0.size) (a := 5) (b := 5) (by omega) hsz
    obtain ⟨hmul1, hmul2⟩ := hmul
    have HX := Lib.hid (show (r : Int) * (s0.size : Int) + (c : Int) = ((fld g).cellN ((fld g).go S0 j) : Nat) by
      rw [← HSJ.out]
      show _ = ((r * width g + c : Nat) : Int)
      rw [Int.natCast_add, Int.natCast_mul, HZ.out])
    have HD := Lib.hid (show (d : Int) = (((fld g).go S0 j).d : Nat) by rw [← HSJ.out])
    obtain ⟨o, ho⟩ : ∃ o, (fld g).out ⟨r, c, d⟩ = o := ⟨_, rfl⟩
    have ht : turnD row[c] d = o := by rw [← ho, ← HL.out hcc]; rfl
    have hok : (fld g).Ok ⟨r, c, d⟩ := ⟨hsr, hsc, hsd⟩
    have ho4 := Fd.out_lt hok
    have hlv := leave_eq hok
    have hbd := next_bd (r := r) (c := c) (d := o) hr5 hc5
    rw [ho] at ho4 hlv
    have htu := fun w => l2Bend_any row[c] d hsd w
    rw [ht] at htu
    have hst := fun w => l2Step_any r c o ho4 (by omega) (by omega) w
    have hle := fun w => l2Leave_any (fld g).n (fld g).m (nextR r o) (nextC c o) hl2 hw2' hbd.1 hbd.2 w
    rw [hlv] at hle
    rw [fld_n, fld_m, ← HZ.out] at hle
    have hj1 : j + 1 ≤ maxLen := by simp only [maxLen]; omega
    have hj2 : (j + 1) * 8 ≤ 140737488355328 := by omega
    have hwz : w.heap.size ≤ wr.heap.size := HBW.out.size
    have HLN := Lib.hid (own_len HO.out)
    have HLE := Lib.hid hle
    have HST := Lib.hid hst
    have HTU := Lib.hid htu
    have HOUT := Lib.hid ho
    have HOK := Lib.hid hok
    have HCR := Lib.hid hcr
    have hbz : b < wr.heap.size := by omega
    clear hle hst htu ho hok hlv hbd ht hrr hcr hzr hsc
    go_wp2_with (at_builtin; refine wpList_append_own_at _ rfl _ _ 36 rfl w.heap.size 3 j0 (.int .i64 0) 1 8 Try.underlying36 hji hy0 hy1 hy2 rfl (by decide) _ _ _ rfl (HO.out.alloc _) ⟨(wr).heap.size, 0, none⟩ 1 1 [_] rfl rfl (cell_one_new _ _ _) (int_one _ _) hj1 hj2 (alloc_le hwz _) ?_)
    intro v1' w2 hown2 hgrow2 _ hat2
    have HC2 := Lib.hid (show w2.ownsRow w.heap.size 3 1 v1' (j + 1) (iv (wayC (fld g) S0 (j + 1))) by rw [wayC_succ, iv_snoc, ← HX.out]; exact hown2)
    have HP2 := Lib.hid (own_other (HO'.out.alloc _) hgrow2 HNE.out.symm)
    have HN2 := Lib.hid (new_ne HNE.out HO'.out (Nat.le_succ _) hat2)
    have HB2 := Lib.hid (below_grown (HBW.out.alloc hwz (.cells #[.int .i64 ((r : Int) * (s0.size : Int) + (c : Int))] 3)) hgrow2 (fun g hg => own_ge HO.out g hg))
    have hwz2 : w.heap.size ≤ w2.heap.size := HB2.out.size
    clear hown2 hgrow2 hat2 HO HO' HNE HBW
    go_wp2_with (at_builtin; refine wpList_append_own_at _ rfl _ _ 36 rfl w.heap.size 3 j0 (.int .i64 0) 1 8 Try.underlying36 hji hy0 hy1 hy2 rfl (by decide) _ _ _ rfl (HP2.out.alloc _) ⟨(w2).heap.size, 0, none⟩ 1 1 [_] rfl rfl (cell_one_new _ _ _) (int_one _ _) hj1 hj2 (alloc_le hwz2 _) ?_)
    intro v2' w3 hown3 hgrow3 _ hat3
    have HD3 := Lib.hid (show w3.ownsRow w.heap.size 3 1 v2' (j + 1) (iv (wayD (fld g) S0 (j + 1))) by rw [wayD_succ, iv_snoc, ← HD.out]; exact hown3)
    have HC3 := Lib.hid (own_other (HC2.out.alloc _) hgrow3 HN2.out)
    have HN3 := Lib.hid (new_ne HN2.out.symm HC2.out (Nat.le_succ _) hat3).symm
    have HB3 := Lib.hid (below_grown (HB2.out.alloc hwz2 (.cells #[.int .i64 (d : Int)] 3)) hgrow3 (fun g hg => own_ge HP2.out g hg))
    have hwz3 : w.heap.size ≤ w3.heap.size := HB3.out.size
    clear hown3 hgrow3 hat3 HC2 HP2 HN2 HB2
    have hcr3 : w3.cell? ⟨b, off + r, none⟩ = some (.string row) := by
      have h1 := (HR.out.below HB3.out).cell (sv_get g r hsr)
      have h2 := (HR.out.below HBW0.out).cell (sv_get g r hsr)
      rw [h1, ← h2]; exact HCR.out
    go_wp2_with fail
    refine (HTU.out _).mono ?_
    rintro e w' ⟨rfl, rfl⟩
    clear HTU hcr3
    go_wp2_with fail
    refine (HST.out _).mono ?_
    rintro e w' ⟨rfl, rfl⟩
    clear HST
    go_wp2_with fail
    refine (HLE.out _).mono ?_
    rintro e w' ⟨rfl, rfl⟩
    clear HLE
    have HSL := Lib.hid (own_len HC3.out)
    cases hexi : (fld g).exit ⟨r, c, d⟩ with
    | some q =>
      have hei : exitI (fld g) ⟨r, c, d⟩ = (q : Int) := exitI_off hexi
      have hlast : bb = false ∧ j + 1 = K := by
        have hjl : j + 1 = K := by
          apply Classical.byContradiction
          intro hne
          have := (HEN.out.on j (by omega)).1
          rw [← HSJ.out, hexi] at this; cases this
        rcases HEN.out.last with ⟨_, h2, _⟩ | ⟨h1, _⟩
        · rw [show K - 1 = j by omega, ← HSJ.out, hexi] at h2; cases h2
        · exact ⟨h1, hjl⟩
      have HL2 := Lib.hid hlast
      have hq0 : (0 : Int) ≤ (q : Int) := Int.natCast_nonneg _
      rw [hei]
      obtain ⟨A1, cc1, rfl, _, _⟩ := own_form HC3.out
      obtain ⟨A2, cc2, rfl, _, _⟩ := own_form HD3.out
      clear hei hlast hexi
      go_wp2
      go_ret3
      exact ⟨A1, cc1, A2, cc2, by rw [HL2.out.1, ← HL2.out.2]; rfl, by rw [← HL2.out.2]; exact HC3.out, by rw [← HL2.out.2]; exact HD3.out, HB3.out⟩
    | none =>
      obtain ⟨n1, n2, n3⟩ := next_eq HOK.out hexi
      rw [HOUT.out] at n1 n2 n3
      rw [exitI_on hexi, n1, n2]
      have hstep : (fld g).step ⟨r, c, d⟩ = (fld g).go S0 (j + 1) := by rw [HSJ.out]; rfl
      have hokt := Fd.step_ok HOK.out hexi
      have HST2 := Lib.hid hstep
      obtain ⟨t, ht⟩ : ∃ t, (fld g).step ⟨r, c, d⟩ = t := ⟨_, rfl⟩
      rw [ht] at n3 hokt HST2 ⊢
      have htr : t.r < 5 := by have : t.r < g.length := hokt.1; omega
      have htc : t.c < 5 := by have : t.c < (fld g).m := hokt.2.1; omega
      have hmult := mul_bd (n := t.r) (m := s0.size) (a := 5) (b := 5) (by omega) hsz
      obtain ⟨hmult1, hmult2⟩ := hmult
      have hXt : (t.r : Int) * (s0.size : Int) + (t.c : Int) = ((fld g).cellN t : Nat) := by
        show _ = ((t.r * width g + t.c : Nat) : Int)
        rw [Int.natCast_add, Int.natCast_mul, HZ.out]
      have HD4 := Lib.hid n3
      by_cases hback : t = S0
      · have hlast : bb = true ∧ j + 1 = K := by
          have hjl : j + 1 = K := by
            apply Classical.byContradiction
            intro hne
            exact (HEN.out.on j (by omega)).2 (by rw [← HST2.out]; exact hback)
          rcases HEN.out.last with ⟨h1, _⟩ | ⟨_, q, h2⟩
          · exact ⟨h1, hjl⟩
          · rw [show K - 1 = j by omega, ← HSJ.out, hexi] at h2; cases h2
        have HL2 := Lib.hid hlast
        have b1 : ((t.r : Int) * (s0.size : Int) + (t.c : Int) == (X0 : Int)) = true := by rw [hXt, hback, HX0.out]; exact beq_self_eq_true _
        have b2 : ((o : Int) == (S0.d : Int)) = true := by rw [← n3, hback]; exact beq_self_eq_true _
        obtain ⟨A1, cc1, rfl, _, _⟩ := own_form HC3.out
        obtain ⟨A2, cc2, rfl, _, _⟩ := own_form HD3.out
        clear hlast hback hexi n1 n2 n3 ht hstep hXt
        go_wp2
        go_ret3
        exact ⟨A1, cc1, A2, cc2, by rw [HL2.out.1, ← HL2.out.2]; rfl, by rw [← HL2.out.2]; exact HC3.out, by rw [← HL2.out.2]; exact HD3.out, HB3.out⟩
      · have hjl : j + 1 < K := by
          apply Classical.byContradiction
          intro hne
          rcases HEN.out.last with ⟨_, _, h2⟩ | ⟨_, q, h2⟩
          · rw [show K = j + 1 by omega, ← HST2.out] at h2; exact hback h2
          · rw [show K - 1 = j by omega, ← HSJ.out, hexi] at h2; cases h2
        by_cases hce : (fld g).cellN t = X0
        · have b1 : ((t.r : Int) * (s0.size : Int) + (t.c : Int) == (X0 : Int)) = true := by rw [hXt, hce]; exact beq_self_eq_true _
          have b2 : ((o : Int) == (S0.d : Int)) = false := beq_eq_false_iff_ne.2 (by rw [← n3]; intro e; exact hback (HCI.out t hokt hce (by omega)))
          clear hback hexi n1 n2 n3 ht hstep hXt hce
          go_wp2
          go_roundw
          case rel => exact ⟨j + 1, t, hjl, rfl, rfl, by rw [HD4.out], HST2.out, HC3.out, HD3.out, HN3.out, HB3.out⟩
          case measure =>
            have h1 := HLN.out
            have h2 := HSL.out
            omega
        · have b1 : ((t.r : Int) * (s0.size : Int) + (t.c : Int) == (X0 : Int)) = false := beq_eq_false_iff_ne.2 (by rw [hXt]; omega)
          clear hback hexi n1 n2 n3 ht hstep hXt hce
          go_wp2
          go_roundw
          case rel => exact ⟨j + 1, t, hjl, rfl, rfl, by rw [HD4.out], HST2.out, HC3.out, HD3.out, HN3.out, HB3.out⟩
          case measure =>
            have h1 := HLN.out
            have h2 := HSL.out
            omega
/-- what roundFrom answers: the steps of a round, nothing of a beam -/
def FromPost (F : Fd) (s : St) (K : Nat) (bb : Bool) (w : World) (e : Ending) (w' : World) : Prop :=
  (bb = true → ∃ b c, e = .returned (.slice (some ⟨b, 0, none⟩) K c) ∧ w'.ownsRow w.heap.size 77 2 (.slice (some ⟨b, 0, none⟩) K c) K (stC F s K)) ∧ (bb = false → e = .returned (.slice none 0 0)) ∧ Below w.heap.size w w'
theorem own_one2 (w : World) (base : Nat) (a b : Value) (e : Nat) (hb : base ≤ w.heap.size) : (w.alloc (.cells #[a, b] e)).ownsRow base e 2 (.slice (some ⟨w.heap.size, 0, none⟩) 1 1) 1 [a, b] :=
  ⟨rfl, .inr ⟨w.heap.size, 1, #[a, b], rfl, hb, heap_alloc_new w _, Nat.le_refl _, by decide, rfl, rfl⟩⟩
theorem own_some {w : World} {base e n : Nat} {v : Value} {xs : List Value} (h : w.ownsRow base e 2 v n xs) (hn : 0 < n) : ∃ b c, v = .slice (some ⟨b, 0, none⟩) n c := by
  rcases h.2 with ⟨_, h0⟩ | ⟨g, cap, cur, rfl, _⟩
  · omega
  · exact ⟨g, cap, rfl⟩
set_option maxRecDepth 100000 in
set_option maxHeartbeats 1600000 in
theorem roundFrom_any (A : Option Addr) (cp : Nat) (g : List ByteArray) (S0 : St) (K : Nat) (bb : Bool) (w : World) (hr : Rd w w.heap.size A (sv g)) (hg : gridB g = true) (hs0 : (fld g).Ok S0) (he : Gone (fld g) S0 K bb) (hK : K ≤ 200) :
    Calls Try.prog 54 #[.slice A g.length cp, stV (fld g) S0] w (FromPost (fld g) S0 K bb w) := by
  obtain ⟨j0, hji, hy0, hy1, hy2⟩ := info_parts infoStep
  have hA := fun s (hs : (fld g).Ok s) w (hr : Rd w w.heap.size A (sv g)) => after_any A cp g s w hr hg hs
  have HCI := Lib.hid (fun t (ht : (fld g).Ok t) (h1 : (fld g).cellN t = (fld g).cellN S0) (h2 : t.d = S0.d) => show t = S0 from Fd.code_inj ht hs0 (by unfold Fd.code; unfold Fd.cellN at h1; omega))
  have HS := Lib.hid hs0
  have HEN := Lib.hid he
  have HR := Lib.hid hr
  have hkp := he.pos
  generalize fld g = F at *
  obtain ⟨x0, hx0⟩ : ∃ x0, F.cellN S0 = x0 := ⟨_, rfl⟩
  obtain ⟨d0, hd0⟩ : ∃ d0, S0.d = d0 := ⟨_, rfl⟩
  have HX0 := Lib.hid hx0
  have HD0 := Lib.hid hd0
  have hA0 := hA S0 hs0
  unfold stV at hA hA0 ⊢
  rw [hx0, hd0] at hA0 HCI ⊢
  have HA := Lib.hid hA
  have HA0 := Lib.hid hA0
  have HB2 := Lib.hid ((below_alloc1 w (.cells #[.int .i64 (x0 : Nat), .int .i64 (d0 : Nat)] 77)).alloc (by simp) (.cells #[.int .i64 (x0 : Nat), .int .i64 (d0 : Nat)] 77))
  have HO2 := Lib.hid (own_one2 (w.alloc (.cells #[.int .i64 (x0 : Nat), .int .i64 (d0 : Nat)] 77)) w.heap.size (.int .i64 (x0 : Nat)) (.int .i64 (d0 : Nat)) 77 (by simp))
  have HF2 := Lib.hid ((blk_new w (x0 : Nat) (d0 : Nat)).alloc (.cells #[.int .i64 (x0 : Nat), .int .i64 (d0 : Nat)] 77))
  clear hA hA0 hr hg hs0 he hx0 hd0
  go_enter Try.func54, Try.ntmps54
  go_wp2_with fail
  refine (HA0.out _ (HR.out.later HB2.out)).mono ?_
  rintro e w1 ⟨rfl, hb1⟩
  have HO3 := Lib.hid ((own_keep HO2.out hb1).alloc (.cells #[.int .i64 (F.cellN (nextS F S0) : Nat), .int .i64 ((nextS F S0).d : Nat)] 77))
  have HB3 := Lib.hid ((below_next HB2.out hb1).alloc (Nat.le_trans HB2.out.size hb1.size) (.cells #[.int .i64 (F.cellN (nextS F S0) : Nat), .int .i64 ((nextS F S0).d : Nat)] 77))
  have HF3 := Lib.hid ((HF2.out.below hb1).alloc (.cells #[.int .i64 (F.cellN (nextS F S0) : Nat), .int .i64 ((nextS F S0).d : Nat)] 77))
  have HK3 := Lib.hid (blk_new w1 (F.cellN (nextS F S0) : Nat) ((nextS F S0).d : Nat))
  have hw1 : w.heap.size + 2 ≤ w1.heap.size := by have := hb1.size; simp at this; omega
  clear hb1 HA0 HO2 HB2 HF2
  go_wp2
  go_loopw [5, 7] (fun v t wr => ∃ (k : Nat), k + 1 ≤ K ∧ t = .int .i64 (exitI F (F.go S0 k)) ∧ Hid (wr.ownsRow w.heap.size 77 2 v (k + 1) (stC F S0 (k + 1))) ∧ Hid (Blk wr w.heap.size x0 d0) ∧ Hid (Blk wr w1.heap.size (F.cellN (nextS F (F.go S0 k)) : Nat) ((nextS F (F.go S0 k)).d : Nat)) ∧
      Hid (v.ownBlock ≠ some w.heap.size) ∧ Hid (v.ownBlock ≠ some w1.heap.size) ∧ Hid (Below w.heap.size w wr)) (fun v _ _ => K - sliceLen v)
  case atStart =>
    refine ⟨0, hkp, rfl, ?_, HF3.out, HK3.out, by simp [Hid, Value.ownBlock], by simp [Hid, Value.ownBlock]; omega, HB3.out⟩
    have h := HO3.out
    rw [World.size_alloc] at h
    rw [show stC F S0 (0 + 1) = [.int .i64 (x0 : Nat), .int .i64 (d0 : Nat)] by rw [← HX0.out, ← HD0.out]; rfl]
    exact h
  case round =>
    obtain ⟨k, hk, rfl, HO, HF, HKB, HN0, HN1, HB⟩ := hrel
    have hwz : w.heap.size ≤ wr.heap.size := HB.out.size
    have hokk := Fd.go_ok HS.out (N := k) (fun i hi => (HEN.out.on i (by omega)).1) k (Nat.le_refl _)
    have HLN := Lib.hid (own_len HO.out)
    cases hexi : F.exit (F.go S0 k) with
    | some q =>
      have hlast : bb = false ∧ k + 1 = K := by
        have hjl : k + 1 = K := by
          apply Classical.byContradiction
          intro hne
          have := (HEN.out.on k (by omega)).1
          rw [hexi] at this; cases this
        rcases HEN.out.last with ⟨_, h2, _⟩ | ⟨h1, _⟩
        · rw [show K - 1 = k by omega, hexi] at h2; cases h2
        · exact ⟨h1, hjl⟩
      have HL2 := Lib.hid hlast
      have hq0 : (0 : Int) ≤ (q : Int) := Int.natCast_nonneg _
      rw [exitI_off hexi]
      rw [nextS_off hexi] at HKB
      obtain ⟨t, ht⟩ : ∃ t, F.go S0 k = t := ⟨_, rfl⟩
      rw [ht] at HKB hokk
      have hpost : FromPost F S0 K bb w (.returned (.slice none 0 0)) wr := ⟨fun h => absurd (HL2.out.1.symm.trans h) Bool.false_ne_true, fun _ => rfl, HB.out⟩
      have HPP := Lib.hid hpost
      have f0 := HF.out.c0
      have f1 := HF.out.c1
      have s0 := HKB.out.c0
      have s1 := HKB.out.c1
      by_cases hts : t = S0
      · rw [hts, HX0.out] at s0
        rw [hts, HD0.out] at s1
        clear hlast hexi hpost hts ht hokk
        go_wp2
        go_ret
        exact HPP.out
      · by_cases hce : F.cellN t = x0
        · have b1 : ((F.cellN t : Int) == (x0 : Int)) = true := int_beq_yes hce
          have b2 : ((t.d : Int) == (d0 : Int)) = false := int_beq_no (fun e => hts (HCI.out t hokk hce e))
          clear hlast hexi hpost hts ht hokk hce
          go_wp2
          go_ret
          exact HPP.out
        · have b1 : ((F.cellN t : Int) == (x0 : Int)) = false := int_beq_no hce
          clear hlast hexi hpost hts ht hokk hce
          go_wp2
          go_ret
          exact HPP.out
    | none =>
      rw [exitI_on hexi]
      rw [nextS_on hexi] at HKB
      have hstep : F.step (F.go S0 k) = F.go S0 (k + 1) := rfl
      have hokt := Fd.step_ok hokk hexi
      rw [hstep] at HKB hokt
      have f0 := HF.out.c0
      have f1 := HF.out.c1
      have s0 := HKB.out.c0
      have s1 := HKB.out.c1
      by_cases hts : F.go S0 (k + 1) = S0
      · have hlast : bb = true ∧ k + 1 = K := by
          have hjl : k + 1 = K := by
            apply Classical.byContradiction
            intro hne
            exact (HEN.out.on k (by omega)).2 hts
          rcases HEN.out.last with ⟨h1, _⟩ | ⟨_, q, h2⟩
          · exact ⟨h1, hjl⟩
          · rw [show K - 1 = k by omega, hexi] at h2; cases h2
        have HL2 := Lib.hid hlast
        rw [hts, HX0.out] at s0
        rw [hts, HD0.out] at s1
        obtain ⟨bl, cl, rfl⟩ := own_some HO.out (Nat.succ_pos k)
        clear hlast hexi hts hokk hokt hstep
        go_wp2
        go_ret
        exact ⟨fun _ => ⟨bl, cl, by rw [← HL2.out.2]; rfl, by rw [← HL2.out.2]; exact HO.out⟩, fun h => absurd (h.symm.trans HL2.out.1) Bool.false_ne_true, HB.out⟩
      · have hjl : k + 1 < K := by
          apply Classical.byContradiction
          intro hne
          rcases HEN.out.last with ⟨_, _, h2⟩ | ⟨_, q, h2⟩
          · rw [show K = k + 1 by omega] at h2; exact hts h2
          · rw [show K - 1 = k by omega, hexi] at h2; cases h2
        have hAt := HA.out _ hokt
        have HST := Lib.hid (stC_succ F S0 (k + 1))
        obtain ⟨t, ht⟩ : ∃ t, F.go S0 (k + 1) = t := ⟨_, rfl⟩
        have HT := Lib.hid ht
        rw [ht] at s0 s1 hokt hAt HKB HST hts
        have HAT := Lib.hid hAt
        have hk1 : k + 1 + 1 ≤ maxLen := by simp only [maxLen]; omega
        have hk2 : (k + 1 + 1) * 16 ≤ 140737488355328 := by omega
        by_cases hce : F.cellN t = x0
        · have b1 : ((F.cellN t : Int) == (x0 : Int)) = true := int_beq_yes hce
          have b2 : ((t.d : Int) == (d0 : Int)) = false := int_beq_no (fun e => hts (HCI.out t hokt hce e))
          clear hexi hts ht hokk hokt hce hstep hAt
          go_wp2_with (at_builtin; refine wpList_append_own_at _ rfl _ _ 68 rfl w.heap.size 77 j0 (.agg #[.int .i64 0, .int .i64 0]) 2 16 Try.underlying68 hji hy0 hy1 hy2 rfl (by decide) _ _ _ rfl (HO.out.alloc _) ⟨(wr).heap.size, 0, none⟩ 1 1 [_, _] rfl rfl (cell_two_new _ _ _ _) (two_one _ _) hk1 hk2 (alloc_le hwz _) ?_)
          intro v' w2 hown2 hgrow2 _ hat2
          have HC2 := Lib.hid (show w2.ownsRow w.heap.size 77 2 v' (k + 1 + 1) (stC F S0 (k + 1 + 1)) by rw [HST.out]; exact hown2)
          have HK2 := Lib.hid ((HKB.out.alloc _).keep hgrow2 HN1.out)
          have HF2 := Lib.hid ((HF.out.alloc _).keep hgrow2 HN0.out)
          have HM0 := Lib.hid (own_new_ne HN0.out (Nat.lt_succ_of_lt HF.out.lt) hat2)
          have HM1 := Lib.hid (own_new_ne HN1.out (Nat.lt_succ_of_lt HKB.out.lt) hat2)
          have HB2 := Lib.hid (below_grown (HB.out.alloc hwz (.cells #[.int .i64 (F.cellN t : Nat), .int .i64 (t.d : Nat)] 77)) hgrow2 (fun g hg => own_ge HO.out g hg))
          have HA2 := Lib.hid (HAT.out w2 (HR.out.later HB2.out))
          have d0' := HK2.out.c0
          have d1' := HK2.out.c1
          clear hown2 hgrow2 hat2 HO HKB HF HN0 HN1 HB s0 s1 f0 f1 HAT
          go_wp2_with fail
          refine HA2.out.mono ?_
          rintro e w3 ⟨rfl, hb3⟩
          have HK3 := Lib.hid (HK2.out.below hb3)
          have HF3 := Lib.hid (HF2.out.below hb3)
          have HC3 := Lib.hid (own_keep HC2.out hb3)
          have HB3' := Lib.hid (below_next HB2.out hb3)
          have HSL := Lib.hid (own_len HC3.out)
          have f0 := HK3.out.fr 0
          have f1 := HK3.out.fr 1
          have y0 := HK3.out.c0
          have y1 := HK3.out.c1
          clear hb3 HA2 HK2 HF2 HC2 HB2 d0' d1'
          go_wp2
          go_roundw
          case rel => exact ⟨k + 1, hjl, by rw [HT.out], own_other HC3.out (grown_set2 _ _ 0 1) HM1.out, HF3.out.keep (grown_set2 _ _ 0 1) (by intro e; injection e with e; omega), by rw [HT.out]; exact HK3.out.set2 _ _, HM0.out, HM1.out, HB3'.out.grown (grown_set2 _ _ 0 1) HB3'.out.size (fun g hg => by injection hg with hg; omega)⟩
          case measure =>
            have h1 := HLN.out
            have h2 := HSL.out
            omega
        · have b1 : ((F.cellN t : Int) == (x0 : Int)) = false := int_beq_no hce
          clear hexi hts ht hokk hokt hce hstep hAt
          go_wp2_with (at_builtin; refine wpList_append_own_at _ rfl _ _ 68 rfl w.heap.size 77 j0 (.agg #[.int .i64 0, .int .i64 0]) 2 16 Try.underlying68 hji hy0 hy1 hy2 rfl (by decide) _ _ _ rfl (HO.out.alloc _) ⟨(wr).heap.size, 0, none⟩ 1 1 [_, _] rfl rfl (cell_two_new _ _ _ _) (two_one _ _) hk1 hk2 (alloc_le hwz _) ?_)
          intro v' w2 hown2 hgrow2 _ hat2
          have HC2 := Lib.hid (show w2.ownsRow w.heap.size 77 2 v' (k + 1 + 1) (stC F S0 (k + 1 + 1)) by rw [HST.out]; exact hown2)
          have HK2 := Lib.hid ((HKB.out.alloc _).keep hgrow2 HN1.out)
          have HF2 := Lib.hid ((HF.out.alloc _).keep hgrow2 HN0.out)
          have HM0 := Lib.hid (own_new_ne HN0.out (Nat.lt_succ_of_lt HF.out.lt) hat2)
          have HM1 := Lib.hid (own_new_ne HN1.out (Nat.lt_succ_of_lt HKB.out.lt) hat2)
          have HB2 := Lib.hid (below_grown (HB.out.alloc hwz (.cells #[.int .i64 (F.cellN t : Nat), .int .i64 (t.d : Nat)] 77)) hgrow2 (fun g hg => own_ge HO.out g hg))
          have HA2 := Lib.hid (HAT.out w2 (HR.out.later HB2.out))
          have d0' := HK2.out.c0
          have d1' := HK2.out.c1
          clear hown2 hgrow2 hat2 HO HKB HF HN0 HN1 HB s0 s1 f0 f1 HAT
          go_wp2_with fail
          refine HA2.out.mono ?_
          rintro e w3 ⟨rfl, hb3⟩
          have HK3 := Lib.hid (HK2.out.below hb3)
          have HF3 := Lib.hid (HF2.out.below hb3)
          have HC3 := Lib.hid (own_keep HC2.out hb3)
          have HB3' := Lib.hid (below_next HB2.out hb3)
          have HSL := Lib.hid (own_len HC3.out)
          have f0 := HK3.out.fr 0
          have f1 := HK3.out.fr 1
          have y0 := HK3.out.c0
          have y1 := HK3.out.c1
          clear hb3 HA2 HK2 HF2 HC2 HB2 d0' d1'
          go_wp2
          go_roundw
          case rel => exact ⟨k + 1, hjl, by rw [HT.out], own_other HC3.out (grown_set2 _ _ 0 1) HM1.out, HF3.out.keep (grown_set2 _ _ 0 1) (by intro e; injection e with e; omega), by rw [HT.out]; exact HK3.out.set2 _ _, HM0.out, HM1.out, HB3'.out.grown (grown_set2 _ _ 0 1) HB3'.out.size (fun g hg => by injection hg with hg; omega)⟩
          case measure =>
            have h1 := HLN.out
            have h2 := HSL.out
            omega
/-! ### the cells of a round -/
noncomputable def cellsRB (g : List ByteArray) (c d : Int) : Bool := gridB g && inB c 0 ((cellsN g : Int) - 1) && inB d 0 3 && (fld g).roundB (4 * c.toNat + d.toNat)
def cellsF (F : Fd) (s : St) (K : Nat) : List Nat := (List.range K).map fun k => F.cellN (F.go s k)
theorem cellsF_length (F : Fd) (s : St) (K : Nat) : (cellsF F s K).length = K := by simp [cellsF]
theorem cellsF_wayC (F : Fd) (s : St) (K : Nat) : wayC F s K = ni (cellsF F s K) := by
  unfold wayC ni cellsF
  rw [List.map_map]; rfl
noncomputable def cellsR (g : List ByteArray) (c d : Int) : List Nat := if cellsRB g c d then cellsF (fld g) ((fld g).st (4 * c.toNat + d.toNat)) ((fld g).per ((fld g).st (4 * c.toNat + d.toNat))) else []
theorem cellsR_no {g : List ByteArray} {c d : Int} (h : cellsRB g c d = false) : cellsR g c d = [] := by unfold cellsR; rw [h]; rfl
theorem cellsR_yes {g : List ByteArray} {c d : Nat} (h : cellsRB g (c : Nat) (d : Nat) = true) : cellsR g (c : Nat) (d : Nat) = cellsF (fld g) ((fld g).st (4 * c + d)) ((fld g).per ((fld g).st (4 * c + d))) := by unfold cellsR; rw [h]; rfl
theorem cellsRB_nat {g : List ByteArray} {c d : Nat} (hg : gridB g = true) (hc : c < cellsN g) (hd : d < 4) : cellsRB g (c : Nat) (d : Nat) = (fld g).roundB (4 * c + d) := by
  unfold cellsRB
  rw [hg, inB_yes ⟨by omega, by omega⟩, inB_yes ⟨by omega, by omega⟩]; rfl
theorem cells_nat {g : List ByteArray} {c d : Int} (h1 : inB c 0 ((cellsN g : Int) - 1) = true) (h2 : inB d 0 3 = true) : ∃ c' d' : Nat, c = (c' : Nat) ∧ d = (d' : Nat) ∧ c' < cellsN g ∧ d' < 4 := by
  have h1 := inB_iff.1 h1
  have h2 := inB_iff.1 h2
  exact ⟨c.toNat, d.toNat, by omega, by omega, by omega, by omega⟩
theorem st_cd {g : List ByteArray} (hg : gridB g = true) {c d : Nat} (hc : c < cellsN g) (hd : d < 4) : (fld g).Ok ((fld g).st (4 * c + d)) ∧ (fld g).cellN ((fld g).st (4 * c + d)) = c ∧ ((fld g).st (4 * c + d)).d = d := by
  have hm := grid_hm hg
  have h1 : 4 * c + d < 4 * ((fld g).n * (fld g).m) := by
    have : (fld g).n * (fld g).m = cellsN g := rfl
    omega
  have h2 := Fd.code_st (F := fld g) hm (4 * c + d)
  have h3 : ((fld g).st (4 * c + d)).d = (4 * c + d) % 4 := rfl
  have h4 : (fld g).code ((fld g).st (4 * c + d)) = 4 * (fld g).cellN ((fld g).st (4 * c + d)) + ((fld g).st (4 * c + d)).d := rfl
  exact ⟨Fd.st_ok hm h1, by omega, by omega⟩
theorem per_100 {g : List ByteArray} (hg : gridB g = true) {s : St} (hs : (fld g).Ok s) {K : Nat} (hK : (fld g).Comes s K) : K ≤ 100 := by
  have h1 := Fd.comes_len hs hK
  have h2 := cells_25 hg
  have : (fld g).n * (fld g).m = cellsN g := rfl
  omega
theorem ends_100 {g : List ByteArray} (hg : gridB g = true) {s : St} (hs : (fld g).Ok s) (h : ¬ (fld g).IsRound s) : ∃ N q, N ≤ 100 ∧ (fld g).Ends s N q := by
  have h2 := cells_25 hg
  have h3 : (fld g).n * (fld g).m = cellsN g := rfl
  rcases Fd.fate hs with ⟨N, q, hN, he⟩ | ⟨K, _, hc⟩
  · exact ⟨N, q, by omega, he⟩
  · exact absurd ⟨K, hc⟩ h
theorem len_cellsR (g : List ByteArray) (c d : Int) : (ni (cellsR g c d)).length ≤ 100 := by
  rw [ni_length]
  cases h : cellsRB g c d
  · rw [cellsR_no h]; exact Nat.zero_le _
  · unfold cellsR
    rw [if_pos h, cellsF_length]
    unfold cellsRB at h
    simp only [Bool.and_eq_true] at h
    obtain ⟨⟨⟨hg, h1⟩, h2⟩, h3⟩ := h
    obtain ⟨c', d', rfl, rfl, hc, hd⟩ := cells_nat h1 h2
    exact per_100 hg (st_cd hg hc hd).1 (Fd.per_comes (Fd.roundB_iff.1 h3))
theorem cellsRB_no {g : List ByteArray} {c d : Int} (h : gridB g = false ∨ inB c 0 ((cellsN g : Int) - 1) = false ∨ inB d 0 3 = false) : cellsRB g c d = false := by
  unfold cellsRB
  rcases h with h | h | h <;> rw [h]
  · rfl
  · rw [Bool.and_false]; rfl
  · rw [Bool.and_false]; rfl
set_option maxHeartbeats 800000 in
theorem iRoundCells_any (A : Option Addr) (cp : Nat) (g : List ByteArray) (c d : Int) (w : World) (hr : Rd w w.heap.size A (sv g)) (hm : g.length ≤ maxLen) (hs : ∀ s ∈ g, s.size ≤ maxLen) :
    Calls Try.prog 25 #[.slice A g.length cp, .int .i64 c, .int .i64 d] w (FreshIB (ni (cellsR g c d)) (cellsRB g c d) w) := by
  have hG := iGridIn_any A cp g w _ hr hm hs
  have hO := nil_own w
  cases hg : gridB g
  · have hb := cellsRB_no (c := c) (d := d) (.inl hg)
    rw [hg] at hG
    have HG := Lib.hid hG
    have HN := Lib.hid (cellsR_no hb)
    have HB := Lib.hid hb
    have HO := Lib.hid hO
    clear hG hg hb hr hm hs hO
    go_enter Try.func25, Try.ntmps25
    go_wp2_with fail
    refine HG.out.mono ?_
    rintro e w' ⟨rfl, rfl⟩
    go_wp2
    go_ret2
    rw [HN.out, HB.out]
    exact ⟨_, _, rfl, HO.out, below_alloc1 _ _⟩
  rw [hg] at hG
  have HG := Lib.hid hG
  have HC := Lib.hid (cells_any A cp g w _ hr hg)
  have hM := cells_25 hg
  cases h1 : inB c 0 ((cellsN g : Int) - 1)
  · have hb := cellsRB_no (g := g) (c := c) (d := d) (.inr (.inl h1))
    have HN := Lib.hid (cellsR_no hb)
    have HB := Lib.hid hb
    have HO := Lib.hid hO
    have H1 := Lib.hid h1
    clear hG hg hb hr hm hs hO h1
    generalize cellsN g = M at *
    go_enter Try.func25, Try.ntmps25
    go_wp2_with fail
    refine HG.out.mono ?_
    rintro e w' ⟨rfl, rfl⟩
    go_wp2_with fail
    refine HC.out.mono ?_
    rintro e w' ⟨rfl, rfl⟩
    go_wp2_with fail
    refine (within_b _ _ _ _ H1.out _).mono ?_
    rintro e w' ⟨rfl, rfl⟩
    go_wp2
    go_ret2
    rw [HN.out, HB.out]
    exact ⟨_, _, rfl, HO.out, below_alloc1 _ _⟩
  cases h2 : inB d 0 3
  · have hb := cellsRB_no (g := g) (c := c) (d := d) (.inr (.inr h2))
    have HN := Lib.hid (cellsR_no hb)
    have HB := Lib.hid hb
    have HO := Lib.hid hO
    have H1 := Lib.hid h1
    have H2 := Lib.hid h2
    clear hG hg hb hr hm hs hO h1 h2
    generalize cellsN g = M at *
    go_enter Try.func25, Try.ntmps25
    go_wp2_with fail
    refine HG.out.mono ?_
    rintro e w' ⟨rfl, rfl⟩
    go_wp2_with fail
    refine HC.out.mono ?_
    rintro e w' ⟨rfl, rfl⟩
    go_wp2_with fail
    refine (within_b _ _ _ _ H1.out _).mono ?_
    rintro e w' ⟨rfl, rfl⟩
    go_wp2_with fail
    refine (within_b _ _ _ _ H2.out _).mono ?_
    rintro e w' ⟨rfl, rfl⟩
    go_wp2
    go_ret2
    rw [HN.out, HB.out]
    exact ⟨_, _, rfl, HO.out, below_alloc1 _ _⟩
  have H1 := Lib.hid h1
  have H2 := Lib.hid h2
  obtain ⟨c, d, rfl, rfl, hc, hd⟩ := cells_nat h1 h2
  obtain ⟨hok, hce, hde⟩ := st_cd hg hc hd
  have hbq := cellsRB_nat hg hc hd
  have hyes := fun h => cellsR_yes (g := g) (c := c) (d := d) h
  obtain ⟨s, hss⟩ : ∃ s, (fld g).st (4 * c + d) = s := ⟨_, rfl⟩
  have hrb := Fd.roundB_iff (F := fld g) (x := 4 * c + d)
  rw [hss] at hok hce hde hyes hrb
  have hsv : stV (fld g) s = .agg #[.int .i64 (c : Nat), .int .i64 (d : Nat)] := by unfold stV; rw [hce, hde]
  cases hb : cellsRB g (c : Nat) (d : Nat)
  · have hnr : ¬ (fld g).IsRound s := fun h => by rw [← hrb, ← hbq, hb] at h; cases h
    obtain ⟨N, q, hN, he⟩ := ends_100 hg hok hnr
    have hF := roundFrom_any A cp g s (N + 1) false w hr hg hok (gone_ends he) (by omega)
    rw [hsv] at hF
    have HF := Lib.hid hF
    have HN := Lib.hid (cellsR_no hb)
    have HCO := Lib.hid (fun w => cellsOf_any none 0 0 (fld g) s w Rd.nil (by omega))
    clear hG hg hb hr hm hs hO h1 h2 hF hsv hbq hyes hss hrb hnr he hok hce hde hc hd
    generalize cellsN g = M at *
    go_enter Try.func25, Try.ntmps25
    go_wp2_with fail
    refine HG.out.mono ?_
    rintro e w' ⟨rfl, rfl⟩
    go_wp2_with fail
    refine HC.out.mono ?_
    rintro e w' ⟨rfl, rfl⟩
    go_wp2_with fail
    refine (within_b _ _ _ _ H1.out _).mono ?_
    rintro e w' ⟨rfl, rfl⟩
    go_wp2_with fail
    refine (within_b _ _ _ _ H2.out _).mono ?_
    rintro e w' ⟨rfl, rfl⟩
    go_wp2_with fail
    refine HF.out.mono ?_
    rintro e w1 ⟨_, he1, hb1⟩
    obtain rfl := he1 rfl
    go_wp2_with fail
    refine (HCO.out _).mono ?_
    rintro e w2 ⟨A2, c2, rfl, ho2, hb2⟩
    have HO := Lib.hid (own_mono ho2 hb1.size)
    clear ho2
    go_wp2
    go_ret2
    rw [HN.out]
    exact ⟨A2, c2, rfl, HO.out, below_next hb1 hb2⟩
  · have hr1 : (fld g).IsRound s := hrb.1 (by rw [← hbq, hb])
    have hK := Fd.per_comes hr1
    have hK100 := per_100 hg hok hK
    have hF := roundFrom_any A cp g s _ true w hr hg hok (gone_comes hK) (by omega)
    rw [hsv] at hF
    have HF := Lib.hid hF
    have HN := Lib.hid (hyes hb)
    obtain ⟨K, hKK⟩ : ∃ K, (fld g).per s = K := ⟨_, rfl⟩
    rw [hKK] at HF HN hK100
    have HCO := Lib.hid (fun A c w (h : Rd w w.heap.size A (stC (fld g) s K)) => cellsOf_any A c K (fld g) s w h (by omega))
    clear hG hg hb hr hm hs hO h1 h2 hF hsv hbq hyes hss hrb hr1 hK hok hce hde hc hd hKK
    generalize cellsN g = M at *
    go_enter Try.func25, Try.ntmps25
    go_wp2_with fail
    refine HG.out.mono ?_
    rintro e w' ⟨rfl, rfl⟩
    go_wp2_with fail
    refine HC.out.mono ?_
    rintro e w' ⟨rfl, rfl⟩
    go_wp2_with fail
    refine (within_b _ _ _ _ H1.out _).mono ?_
    rintro e w' ⟨rfl, rfl⟩
    go_wp2_with fail
    refine (within_b _ _ _ _ H2.out _).mono ?_
    rintro e w' ⟨rfl, rfl⟩
    go_wp2_with fail
    refine HF.out.mono ?_
    rintro e w1 ⟨he1, _, hb1⟩
    obtain ⟨bl, cl, rfl, ho1⟩ := he1 rfl
    have HCO1 := Lib.hid (HCO.out (some ⟨bl, 0, none⟩) cl _ (rd_own2 ho1))
    clear ho1
    go_wp2_with fail
    refine HCO1.out.mono ?_
    rintro e w2 ⟨A2, c2, rfl, ho2, hb2⟩
    have HO := Lib.hid (own_mono ho2 hb1.size)
    clear ho2
    go_wp2
    go_ret2
    rw [HN.out]
    exact ⟨A2, c2, by rw [ni_length, cellsF_length]; rfl, by rw [ni_length, cellsF_length, ← cellsF_wayC]; exact HO.out, below_next hb1 hb2⟩
theorem iRoundCells_yes (A : Option Addr) (cp : Nat) (g : List ByteArray) (c d : Nat) (w : World) (hr : Rd w w.heap.size A (sv g)) (hg : gridB g = true) (hc : c < cellsN g) (hd : d < 4) (hm : g.length ≤ maxLen) (hs : ∀ s ∈ g, s.size ≤ maxLen) :
    Calls Try.prog 25 #[.slice A g.length cp, .int .i64 (c : Nat), .int .i64 (d : Nat)] w fun e w' => ∃ A' n c', e = .returned (.tuple #[.slice A' n c', .bool ((fld g).roundB (4 * c + d))]) ∧ Below w.heap.size w w' :=
  (iRoundCells_any A cp g c d w hr hm hs).mono fun e w' ⟨A', c', he, _, hb⟩ => ⟨A', (ni (cellsR g c d)).length, c', by rw [he, ← cellsRB_nat hg hc hd], hb⟩
set_option maxHeartbeats 800000 in
theorem sRoundCells_any (A : Option Addr) (cp : Nat) (g : List ByteArray) (c d : Int) (w : World) (hr : Rd w w.heap.size A (sv g)) (hm : g.length ≤ maxLen) (hs : ∀ s ∈ g, s.size ≤ maxLen) :
    Calls Try.prog 26 #[.slice A g.length cp, .int .i64 c, .int .i64 d] w (FreshIB (ni (cellsR g c d)) (cellsRB g c d) w) := by
  have hG := sGridIn_any A cp g w _ hr hm hs
  cases hg : gridB g
  · have hb := cellsRB_no (c := c) (d := d) (.inl hg)
    rw [hg] at hG
    have HG := Lib.hid hG
    have HN := Lib.hid (cellsR_no hb)
    have HB := Lib.hid hb
    clear hG hg hb hr hm hs
    go_enter Try.func26, Try.ntmps26
    go_wp2_with fail
    refine HG.out.mono ?_
    rintro e w' ⟨rfl, hd⟩
    have HO := Lib.hid (own_mono (nil_own w') (hd.below 0).size)
    go_wp2
    go_ret2
    rw [HN.out, HB.out]
    exact ⟨_, _, rfl, HO.out, below_next (hd.below _) (below_alloc1 _ _)⟩
  rw [hg] at hG
  have HG := Lib.hid hG
  have hM := cells_25 hg
  obtain ⟨gl1, gl2⟩ := grid_len hg
  obtain ⟨gw1, gw2⟩ := grid_width hg
  obtain ⟨b, off, rfl, hbb, _⟩ := hr.at_ (sv_get g 0 (by omega))
  obtain ⟨s0, hc0, hz0⟩ : ∃ s0 : ByteArray, w.cell? ⟨b, off, none⟩ = some (.string s0) ∧ s0.size = width g := ⟨g[0], by have := hr.cell (sv_get g 0 (by omega)); rw [Nat.add_zero] at this; exact this, grid_row hg 0 (by omega)⟩
  have hz5 : s0.size ≤ 5 := by omega
  have hpos : 0 < g.length := by omega
  have hmul : (g.length : Int) * (s0.size : Int) = (cellsN g : Nat) := by unfold cellsN; rw [hz0, Int.natCast_mul]
  have hmul1 : (g.length : Int) * (s0.size : Int) ≤ 25 ∧ 0 ≤ (g.length : Int) * (s0.size : Int) := by rw [hmul]; omega
  obtain ⟨hmul2, hmul3⟩ := hmul1
  have HC := Lib.hid hc0
  clear hc0 hz0 gw1 gw2
  cases h1 : inB c 0 ((cellsN g : Int) - 1)
  · have hb := cellsRB_no (g := g) (c := c) (d := d) (.inr (.inl h1))
    have HN := Lib.hid (cellsR_no hb)
    have HB := Lib.hid hb
    rw [← hmul] at h1
    have H1 := Lib.hid h1
    clear hG hg hb hr hm hs h1 hmul
    go_enter Try.func26, Try.ntmps26
    go_wp2_with fail
    refine HG.out.mono ?_
    rintro e w1 ⟨rfl, hd⟩
    have hc1 : w1.cell? ⟨b, off, none⟩ = some (.string s0) := by rw [(hd.below w.heap.size).cell (p := ⟨b, off, none⟩) hbb]; exact HC.out
    have HO := Lib.hid (own_mono (nil_own w1) (hd.below 0).size)
    go_wp2_with fail
    refine (l6In_b _ _ _ _ H1.out _).mono ?_
    rintro e w' ⟨rfl, rfl⟩
    go_wp2
    go_ret2
    rw [HN.out, HB.out]
    exact ⟨_, _, rfl, HO.out, below_next (hd.below _) (below_alloc1 _ _)⟩
  cases h2 : inB d 0 3
  · have hb := cellsRB_no (g := g) (c := c) (d := d) (.inr (.inr h2))
    have HN := Lib.hid (cellsR_no hb)
    have HB := Lib.hid hb
    rw [← hmul] at h1
    have H1 := Lib.hid h1
    have H2 := Lib.hid h2
    clear hG hg hb hr hm hs h1 h2 hmul
    go_enter Try.func26, Try.ntmps26
    go_wp2_with fail
    refine HG.out.mono ?_
    rintro e w1 ⟨rfl, hd⟩
    have hc1 : w1.cell? ⟨b, off, none⟩ = some (.string s0) := by rw [(hd.below w.heap.size).cell (p := ⟨b, off, none⟩) hbb]; exact HC.out
    have HO := Lib.hid (own_mono (nil_own w1) (hd.below 0).size)
    go_wp2_with fail
    refine (l6In_b _ _ _ _ H1.out _).mono ?_
    rintro e w' ⟨rfl, rfl⟩
    go_wp2_with fail
    refine (l6In_b _ _ _ _ H2.out _).mono ?_
    rintro e w' ⟨rfl, rfl⟩
    go_wp2
    go_ret2
    rw [HN.out, HB.out]
    exact ⟨_, _, rfl, HO.out, below_next (hd.below _) (below_alloc1 _ _)⟩
  obtain ⟨c, d, rfl, rfl, hc, hd⟩ := cells_nat h1 h2
  rw [← hmul] at h1
  have H1 := Lib.hid h1
  have H2 := Lib.hid h2
  obtain ⟨hok, hce, hde⟩ := st_cd hg hc hd
  have hbq := cellsRB_nat hg hc hd
  have hyes := fun h => cellsR_yes (g := g) (c := c) (d := d) h
  obtain ⟨s, hss⟩ : ∃ s, (fld g).st (4 * c + d) = s := ⟨_, rfl⟩
  have hrb := Fd.roundB_iff (F := fld g) (x := 4 * c + d)
  rw [hss] at hok hce hde hyes hrb
  cases hb : cellsRB g (c : Nat) (d : Nat)
  · have hnr : ¬ (fld g).IsRound s := fun h => by rw [← hrb, ← hbq, hb] at h; cases h
    obtain ⟨N, q, hN, he⟩ := ends_100 hg hok hnr
    have hF := fun w hr => l3Close_any (some ⟨b, off, none⟩) cp g s (N + 1) false w hr hg hok (gone_ends he) (by omega)
    rw [hce, hde] at hF
    have HF := Lib.hid hF
    have HN := Lib.hid (cellsR_no hb)
    have HR := Lib.hid hr
    clear hG hg hb hr hm hs h1 h2 hF hbq hyes hss hrb hnr he hok hce hde hc hd hmul
    go_enter Try.func26, Try.ntmps26
    go_wp2_with fail
    refine HG.out.mono ?_
    rintro e w1 ⟨rfl, hd⟩
    have hc1 : w1.cell? ⟨b, off, none⟩ = some (.string s0) := by rw [(hd.below w.heap.size).cell (p := ⟨b, off, none⟩) hbb]; exact HC.out
    have HF1 := Lib.hid (HF.out _ (HR.out.later (hd.below _)))
    go_wp2_with fail
    refine (l6In_b _ _ _ _ H1.out _).mono ?_
    rintro e w' ⟨rfl, rfl⟩
    go_wp2_with fail
    refine (l6In_b _ _ _ _ H2.out _).mono ?_
    rintro e w' ⟨rfl, rfl⟩
    clear hc1
    go_wp2_with fail
    refine HF1.out.mono ?_
    rintro e w2 ⟨A1, c1, A2, c2, rfl, ho1, ho2, hb2⟩
    have hbw := below_next (hd.below _) hb2
    have HO := Lib.hid (own_mono (nil_own w2) hbw.size)
    clear ho1 ho2
    go_wp2
    go_ret2
    rw [HN.out]
    exact ⟨_, _, rfl, HO.out, below_next hbw (below_alloc1 _ _)⟩
  · have hr1 : (fld g).IsRound s := hrb.1 (by rw [← hbq, hb])
    have hK := Fd.per_comes hr1
    have hK100 := per_100 hg hok hK
    have hF := fun w hr => l3Close_any (some ⟨b, off, none⟩) cp g s _ true w hr hg hok (gone_comes hK) (by omega)
    rw [hce, hde] at hF
    have HF := Lib.hid hF
    have HN := Lib.hid (hyes hb)
    have HR := Lib.hid hr
    obtain ⟨K, hKK⟩ : ∃ K, (fld g).per s = K := ⟨_, rfl⟩
    rw [hKK] at HF HN hK100
    clear hG hg hb hr hm hs h1 h2 hF hbq hyes hss hrb hr1 hK hok hce hde hc hd hKK hmul
    go_enter Try.func26, Try.ntmps26
    go_wp2_with fail
    refine HG.out.mono ?_
    rintro e w1 ⟨rfl, hd⟩
    have hc1 : w1.cell? ⟨b, off, none⟩ = some (.string s0) := by rw [(hd.below w.heap.size).cell (p := ⟨b, off, none⟩) hbb]; exact HC.out
    have HF1 := Lib.hid (HF.out _ (HR.out.later (hd.below _)))
    go_wp2_with fail
    refine (l6In_b _ _ _ _ H1.out _).mono ?_
    rintro e w' ⟨rfl, rfl⟩
    go_wp2_with fail
    refine (l6In_b _ _ _ _ H2.out _).mono ?_
    rintro e w' ⟨rfl, rfl⟩
    clear hc1
    go_wp2_with fail
    refine HF1.out.mono ?_
    rintro e w2 ⟨A1, c1, A2, c2, rfl, ho1, ho2, hb2⟩
    have hbw := below_next (hd.below _) hb2
    have HO := Lib.hid (own_mono ho1 (hd.below 0).size)
    clear ho1 ho2
    go_wp2
    go_ret2
    rw [HN.out]
    exact ⟨A1, c1, by rw [ni_length, cellsF_length]; rfl, by rw [ni_length, cellsF_length, ← cellsF_wayC]; exact HO.out, hbw⟩
end Go.Proofs.Ythjllnabjnjpmaa
