/-
  CONTRACTS: RoundLeast, RoundAt, RoundTwice of the program and of the reference.
-/
import Derived.Test.YthjllnabjnjpmaaBO
namespace Go.Proofs.Ythjllnabjnjpmaa
set_option maxRecDepth 100000
open Go.RowKit

/-- the cells of the rounds that some numbers lead -/
noncomputable def cellsOn (F : Fd) (xs : List Nat) : List Nat := xs.flatMap fun x => cellsF F (F.st x) (F.per (F.st x))
theorem cellsOn_snoc (F : Fd) (xs : List Nat) (x : Nat) : cellsOn F (xs ++ [x]) = cellsOn F xs ++ cellsF F (F.st x) (F.per (F.st x)) := by simp [cellsOn]
theorem cellsOn_all (F : Fd) : cellsOn F F.leads = F.steps.map F.cellN := by
  unfold cellsOn Fd.steps
  rw [List.map_flatMap]
  congr 1
  funext x
  unfold cellsF Fd.orbit
  rw [List.map_map]; rfl
/-- how often rounds go through each cell -/
noncomputable def timesL (F : Fd) (M : Nat) : List Nat := (List.range M).map F.times
theorem timesL_length (F : Fd) (M : Nat) : (timesL F M).length = M := by simp [timesL]
theorem timesL_get (F : Fd) (M k : Nat) (hk : k < M) : (timesL F M)[k]'(by rw [timesL_length]; exact hk) = F.times k := by simp [timesL]
theorem timesL_cnts (F : Fd) (M : Nat) : cnts M (cellsOn F F.leads) = timesL F M := by rw [cellsOn_all]; rfl
theorem cellsF_take (F : Fd) (s : St) (K k : Nat) (hk : k < K) : (cellsF F s K).take (k + 1) = (cellsF F s K).take k ++ [F.cellN (F.go s k)] := by
  rw [List.take_succ_eq_append_getElem (by rw [cellsF_length]; exact hk)]
  congr 1
  simp [cellsF]
theorem cellsOn_len {F : Fd} {xs : List Nat} (h : ∀ x ∈ xs, F.per (F.st x) ≤ 100) : (cellsOn F xs).length ≤ 100 * xs.length := by
  induction xs with
  | nil => exact Nat.le_refl _
  | cons x xs ih =>
    have h1 := ih fun y hy => h y (List.mem_cons_of_mem _ hy)
    have h2 := h x (List.mem_cons_self ..)
    have h3 : cellsOn F (x :: xs) = cellsF F (F.st x) (F.per (F.st x)) ++ cellsOn F xs := by simp [cellsOn]
    rw [h3, List.length_append, cellsF_length, List.length_cons]; omega
set_option maxRecDepth 100000 in
set_option maxHeartbeats 1600000 in
theorem roundTimes_any (A : Option Addr) (c : Nat) (g : List ByteArray) (w : World) (hr : Rd w w.heap.size A (sv g)) (hg : gridB g = true) :
    Calls Try.prog 50 #[.slice A g.length c] w (FreshN (ni (timesL (fld g) (cellsN g))) w) := by
  have HC := Lib.hid (cells_any A c g w _ hr hg)
  have HP := Lib.hid (fun w hr => allPaths_any A c g w hr hg)
  have hM := cells_25 hg
  have hL := leads_100 hg
  have hm1 : 1 ≤ (fld g).m := grid_hm hg
  have HOK := Lib.hid (fun x (hx : x ∈ (fld g).leads) => show (∀ j, (fld g).cellN ((fld g).go ((fld g).st x) j) < cellsN g) ∧ (fld g).per ((fld g).st x) ≤ 100 from by
    obtain ⟨h1, h2⟩ := Fd.mem_leads.1 hx
    have hok := Fd.st_ok hm1 h1
    have hK := Fd.per_comes h2.1
    exact ⟨fun j => Fd.cellN_lt (Fd.comes_ok hok hK j), per_100 hg hok hK⟩)
  have HR := Lib.hid hr
  have HTC := Lib.hid (timesL_cnts (fld g) (cellsN g))
  have HTL := Lib.hid (timesL_length (fld g) (cellsN g))
  clear hr hg hm1
  generalize cellsN g = M at *
  generalize fld g = F at *
  have hmk := run_make_row' (P := Try.prog) 36 3 (.int .i64 0) 8 Try.underlying36 infoInt rfl .i64 .i64 M (by omega) (by omega)
  go_enter Try.func50, Try.ntmps50
  go_wp2_with fail
  refine HC.out.mono ?_
  rintro e w' ⟨rfl, rfl⟩
  go_wp2_with fail
  refine (HP.out _ (HR.out.later (below_alloc1 w _))).mono ?_
  rintro e w1 ⟨M1, A1, c1, vs, rfl, ho1, hrows, hb1⟩
  rw [World.size_alloc] at ho1 hrows
  have HO1 := Lib.hid ho1
  have HRO := Lib.hid hrows
  have HC1 := Lib.hid ((hb1.block w.heap.size (by simp)).trans (heap_alloc_new w _))
  have HB1 := Lib.hid (below_next (below_alloc1 w _) hb1)
  clear ho1 hrows hb1 hmk HC HP HR
  generalize hLL : F.leads = LL at *
  have HLL := Lib.hid hLL
  clear hLL
  go_wp2
  go_loopw [20] (fun i wr => ∃ (k : Nat) (cs : Array Value), k ≤ LL.length ∧ i = .int .i64 k ∧ Hid (wr.heap[w.heap.size]? = some (.cells cs 3 (0, 0))) ∧ Hid (cs.toList = iv (ni (cnts M (cellsOn F (LL.take k))))) ∧
      Hid (w1.grownBy wr (some w.heap.size)) ∧ Hid (Below w.heap.size w wr)) (fun i _ => LL.length - (intOf i).toNat)
  case atStart => exact ⟨0, _, Nat.zero_le _, rfl, HC1.out, cnts_nil M, World.grownBy.refl _ _, HB1.out⟩
  case round =>
    obtain ⟨k, cs, hk, rfl, H1, H2, H3, H4⟩ := hrel
    obtain ⟨wo, rfl⟩ : ∃ wo : World, wo = wr := ⟨_, rfl⟩
    by_cases hlt : k < LL.length
    · obtain ⟨bl, cl, hvs, hrow⟩ := HRO.out.2 k LL[k] (List.getElem?_eq_getElem hlt)
      obtain ⟨hcl, hper⟩ := HOK.out LL[k] (List.getElem_mem hlt)
      have hos := own_far HO1.out H3.out (fun j hj => by injection hj with hj; omega)
      obtain ⟨b1, o1, hA1, hbb1, x0⟩ := (Rd.of_own hos).at_ hvs
      subst hA1
      have HROW := Lib.hid hrow
      have HON := Lib.hid (show cellsOn F (LL.take (k + 1)) = cellsOn F (LL.take k) ++ cellsF F (F.st LL[k]) (F.per (F.st LL[k])) by rw [List.take_succ_eq_append_getElem hlt, cellsOn_snoc])
      have hlen : (cellsOn F (LL.take k)).length ≤ 100 * 100 := by
        have h1 := cellsOn_len (F := F) (xs := LL.take k) fun x hx => (HOK.out x (List.mem_of_mem_take hx)).2
        rw [List.length_take] at h1
        have h2 : min k LL.length ≤ 100 := by omega
        omega
      have HCL := Lib.hid hcl
      obtain ⟨S0, hS0⟩ : ∃ S0, F.st LL[k] = S0 := ⟨_, rfl⟩
      rw [hS0] at hper x0 HROW HON HCL
      obtain ⟨K, hK⟩ : ∃ K, F.per S0 = K := ⟨_, rfl⟩
      rw [hK] at hper x0 HROW HON
      generalize cellsOn F (LL.take k) = pre at *
      clear hS0 hK hvs hrow hcl hos
      go_wp2
      go_loopw [26] (fun i wr => ∃ (j : Nat) (cs : Array Value), j ≤ K ∧ i = .int .i64 j ∧ Hid (wr.heap[w.heap.size]? = some (.cells cs 3 (0, 0))) ∧ Hid (cs.toList = iv (ni (cnts M (pre ++ (cellsF F S0 K).take j)))) ∧
          Hid (w1.grownBy wr (some w.heap.size)) ∧ Hid (Below w.heap.size w wr)) (fun i _ => K - (intOf i).toNat)
      case atStart => exact ⟨0, cs, Nat.zero_le _, rfl, H1.out, by rw [List.take_zero, List.append_nil]; exact H2.out, H3.out, H4.out⟩
      case round =>
        obtain ⟨j, cs, hj, rfl, K1, K2, K3, K4⟩ := hrel
        have hcs : cs.size = M := by
          have := congrArg List.length K2.out
          rw [Array.length_toList, iv_length, ni_length, cnts_length] at this
          exact this
        have hwl : w.heap.size < wr.heap.size := (Array.getElem?_eq_some_iff.1 K1.out).1
        have hwz : w.heap.size ≤ wr.heap.size := Nat.le_of_lt hwl
        by_cases hjl : j < K
        · have hor := own_far HROW.out K3.out (fun j hj => by injection hj with hj; omega)
          obtain ⟨g1, g2⟩ := stC_get F S0 hjl
          have hrr := rd_own2 hor
          obtain ⟨b2, o2, hA2, hbb2, y0⟩ := hrr.at_ g1
          obtain ⟨e1, e2⟩ : bl = b2 ∧ 0 = o2 := by injection hA2 with hA2; injection hA2 with h1 h2; exact ⟨h1, h2⟩
          have y1 := hrr.cell g2
          rw [← e1, ← e2, Nat.zero_add] at y0
          rw [Nat.zero_add] at y1
          have hx := HCL.out j
          have HT := Lib.hid (cellsF_take F S0 K j hjl)
          have hol := often_le (pre ++ (cellsF F S0 K).take j)
          have hll2 : (pre ++ (cellsF F S0 K).take j).length ≤ 20000 := by
            rw [List.length_append, List.length_take, cellsF_length]; omega
          clear hor g1 g2 hrr hA2 hbb2 e1 e2
          generalize F.cellN (F.go S0 j) = x at *
          generalize (F.go S0 j).d = d at *
          have hxs : x < cs.size := by omega
          have hcv : cs[x] = .int .i64 (often (pre ++ (cellsF F S0 K).take j) x : Nat) := by
            have h1 : cs.toList[x]? = some cs[x] := by rw [Array.getElem?_toList, Array.getElem?_eq_getElem hxs]
            rw [K2.out, niv_get _ x (by rw [cnts_length]; exact hx), cnts_get M _ x hx] at h1
            injection h1 with h1
            exact h1.symm
          have K1a := Lib.hid ((Below.heap_alloc wr (.cells #[.int .i64 (x : Int), .int .i64 (d : Int)] 77) _ hwl).trans K1.out)
          have hc2 := row_cell K1a.out x hxs
          rw [hcv] at hc2
          have hf2 := row_frozen K1a.out x
          have hle := Nat.le_trans (hol x) hll2
          have K2' := Lib.hid (show (cs.setIfInBounds x (.int .i64 ((often (pre ++ (cellsF F S0 K).take j) x : Nat) + 1))).toList = iv (ni (cnts M (pre ++ (cellsF F S0 K).take (j + 1)))) by
            rw [Array.toList_setIfInBounds, K2.out, cnts_set M _ x hx, HT.out, List.append_assoc])
          clear hcv hol hll2
          go_wp2
          go_roundw
          case rel => exact ⟨j + 1, _, by omega, by go_num, (Below.heap_alloc _ _ _ (by simpa using hwl)).trans (row_set K1.out _ _), K2'.out, grown_below (grown_set K3.out _ _) (below_alloc1 _ _), (K4.out.setCell (Nat.le_refl _) _).alloc (by simpa using hwz) _⟩
          case measure => simp [intOf]; omega
        · have hjK : j = K := by omega
          have HN := Lib.hid (show cs.toList = iv (ni (cnts M (cellsOn F (LL.take (k + 1))))) by rw [K2.out, HON.out, hjK, List.take_of_length_le (by rw [cellsF_length]; omega)])
          clear hjK
          go_wp2
          go_roundw
          case rel => exact ⟨k + 1, cs, by omega, by go_num, K1.out, HN.out, K3.out, K4.out⟩
          case measure => simp [intOf]; omega
    · have HF := Lib.hid (show cs.toList = iv (ni (timesL F M)) by rw [H2.out, List.take_of_length_le (by omega), ← HTC.out])
      have hcs : cs.size = M := by
        have := congrArg List.length H2.out
        rw [Array.length_toList, iv_length, ni_length, cnts_length] at this
        exact this
      have HCS := Lib.hid hcs
      clear hcs
      go_wp2
      go_ret
      refine ⟨some ⟨w.heap.size, 0, none⟩, M, ?_, ?_, H4.out⟩
      · rw [ni_length, HTL.out]; rfl
      · rw [ni_length, HTL.out, ← HF.out]
        exact own_of_row H1.out (Nat.le_refl _) HCS.out (by simp only [maxLen]; omega)
set_option maxHeartbeats 800000 in
theorem iRoundAt_any (A : Option Addr) (cp : Nat) (g : List ByteArray) (c : Int) (w : World) (hr : Rd w w.heap.size A (sv g)) (hm : g.length ≤ maxLen) (hs : ∀ s ∈ g, s.size ≤ maxLen) :
    Calls Try.prog 21 #[.slice A g.length cp, .int .i64 c] w fun e w' => e = .returned (.tuple #[.int .i64 (atA g c : Nat), .bool (atB g c)]) ∧ Below w.heap.size w w' := by
  have hG := iGridIn_any A cp g w _ hr hm hs
  cases hg : gridB g
  · rw [hg] at hG
    have HG := Lib.hid hG
    have HB := Lib.hid (atB_no1 (c := c) hg)
    have HN := Lib.hid (atA_no (atB_no1 (c := c) hg))
    clear hG hg hr hm hs
    go_enter Try.func21, Try.ntmps21
    go_wp2_with fail
    refine HG.out.mono ?_
    rintro e w' ⟨rfl, rfl⟩
    go_wp2
    go_ret2
    exact ⟨by rw [HN.out, HB.out]; rfl, Below.refl _ _⟩
  rw [hg] at hG
  have HG := Lib.hid hG
  have HC := Lib.hid (cells_any A cp g w _ hr hg)
  have hM := cells_25 hg
  cases h1 : inB c 0 ((cellsN g : Int) - 1)
  · have HB := Lib.hid (atB_no2 (g := g) h1)
    have HN := Lib.hid (atA_no (atB_no2 (g := g) h1))
    have H1 := Lib.hid h1
    clear hG hg hr hm hs h1
    generalize cellsN g = M at *
    go_enter Try.func21, Try.ntmps21
    go_wp2_with fail
    refine HG.out.mono ?_
    rintro e w' ⟨rfl, rfl⟩
    go_wp2_with fail
    refine HC.out.mono ?_
    rintro e w' ⟨rfl, rfl⟩
    go_wp2_with fail
    refine (within_b _ _ _ _ H1.out _).mono ?_
    rintro e w' ⟨rfl, rfl⟩
    go_wp2
    go_ret2
    exact ⟨by rw [HN.out, HB.out]; rfl, Below.refl _ _⟩
  have h2 := inB_iff.1 h1
  obtain ⟨k, rfl⟩ := Int.eq_ofNat_of_zero_le h2.1
  have hk : k < cellsN g := by omega
  have HB := Lib.hid (atB_yes hg hk)
  have HN := Lib.hid (atA_yes (atB_yes hg hk))
  have HP := Lib.hid (roundTimes_any A cp g w hr hg)
  have HTL := Lib.hid (timesL_length (fld g) (cellsN g))
  have hget := niv_get (timesL (fld g) (cellsN g)) k (by rw [HTL.out]; exact hk)
  rw [timesL_get (fld g) (cellsN g) k hk] at hget
  have HGT := Lib.hid hget
  have H1 := Lib.hid h1
  clear hG hg hr hm hs h1 h2 hget
  generalize cellsN g = M at *
  go_enter Try.func21, Try.ntmps21
  go_wp2_with fail
  refine HG.out.mono ?_
  rintro e w' ⟨rfl, rfl⟩
  go_wp2_with fail
  refine HC.out.mono ?_
  rintro e w' ⟨rfl, rfl⟩
  go_wp2_with fail
  refine (within_b _ _ _ _ H1.out _).mono ?_
  rintro e w' ⟨rfl, rfl⟩
  go_wp2_with fail
  refine HP.out.mono ?_
  rintro e w1 ⟨A1, c1, rfl, ho, hb⟩
  obtain ⟨b, off, rfl, hbb, x0⟩ := (Rd.of_own ho).at_ HGT.out
  rw [ni_length, HTL.out]
  clear ho HP HG HC
  have hki : (k : Int) < (M : Int) := by omega
  go_wp2
  go_ret2
  exact ⟨by rw [HN.out, HB.out]; rfl, hb⟩
theorem iRoundAt_yes (A : Option Addr) (cp : Nat) (g : List ByteArray) (c : Nat) (w : World) (hr : Rd w w.heap.size A (sv g)) (hg : gridB g = true) (hc : c < cellsN g) (hm : g.length ≤ maxLen) (hs : ∀ s ∈ g, s.size ≤ maxLen) :
    Calls Try.prog 21 #[.slice A g.length cp, .int .i64 (c : Nat)] w fun e w' => e = .returned (.tuple #[.int .i64 ((fld g).times c : Nat), .bool true]) ∧ Below w.heap.size w w' := by
  have h := iRoundAt_any A cp g c w hr hm hs
  rw [atB_yes hg hc, atA_yes (atB_yes hg hc)] at h
  exact h
set_option maxHeartbeats 800000 in
theorem sRoundLeast_any (A : Option Addr) (c : Nat) (g : List ByteArray) (w : World) (hr : Rd w w.heap.size A (sv g)) (hm : g.length ≤ maxLen) (hs : ∀ s ∈ g, s.size ≤ maxLen) :
    Calls Try.prog 53 #[.slice A g.length c] w fun e w' => e = .returned (.tuple #[.int .i64 (leastA g : Nat), .bool (leastB g)]) ∧ Below w.heap.size w w' := by
  have hG := sGridIn_any A c g w _ hr hm hs
  cases hg : gridB g
  · rw [hg] at hG
    have HG := Lib.hid hG
    have HN := Lib.hid (least_no hg)
    clear hG hg hr hm hs
    go_enter Try.func53, Try.ntmps53
    go_wp2_with fail
    refine HG.out.mono ?_
    rintro e w' ⟨rfl, hd⟩
    go_wp2
    go_ret2
    exact ⟨by rw [HN.out.1, HN.out.2]; rfl, hd.below _⟩
  · rw [hg] at hG
    have HG := Lib.hid hG
    have hP := fun w hr => l3Marks_any A c g w hr hg
    unfold MarksPost at hP
    have HP := Lib.hid hP
    have hM := cells_25 hg
    have HYES := Lib.hid (fun (x : Nat) (hx : x < 4 * cellsN g) (h : (fld g).beamB x = false) (hall : ∀ y, y < x → (fld g).beamB y = true) => least_is hg (Fd.least_code (F := fld g) (grid_hn hg) (grid_hm hg) (x := x) hx (fun hb => by rw [Fd.beamB_iff.2 hb] at h; cases h) fun y hy => Fd.beamB_iff.1 (hall y hy)))
    have HNO := Lib.hid (fun (hall : ∀ y, y < 4 * cellsN g → (fld g).beamB y = true) => least_not hg (Fd.least_code_none (F := fld g) (grid_hn hg) (grid_hm hg) fun y hy => Fd.beamB_iff.1 (hall y hy)))
    have hQ : 4 * cellsN g ≤ 100 := by omega
    have HR := Lib.hid hr
    clear hG hg hr hm hs hP hM
    generalize 4 * cellsN g = Q at *
    go_enter Try.func53, Try.ntmps53
    go_wp2_with fail
    refine HG.out.mono ?_
    rintro e w' ⟨rfl, hd⟩
    have HP1 := Lib.hid (HP.out _ (HR.out.later (hd.below _)))
    clear HP
    go_wp2_with fail
    refine HP1.out.mono ?_
    rintro e w1 ⟨b, cs, rfl, hm0, hm1, hb0, hb1⟩
    have HBB := Lib.hid (below_next (hd.below w.heap.size) hb1)
    have HM0 := Lib.hid hm0
    have HM1 := Lib.hid hm1
    clear hm0 hm1 hb1 hd HP1 HG
    generalize (fld g).beamB = f at *
    go_wp2
    go_loop [5] (fun i => ∃ (x : Nat), x ≤ Q ∧ i = .int .i64 x ∧ Hid (∀ y, y < x → f y = true)) (fun i => Q - (intOf i).toNat)
    case atStart => exact ⟨0, Nat.zero_le _, rfl, fun b hb => by omega⟩
    case round =>
      obtain ⟨x, hx, rfl, HA⟩ := hrel
      by_cases hlt : x < Q
      · obtain ⟨hxs, hcv⟩ := mk_cell HM1.out hlt
        have hc2 := row_cell HM0.out x hxs
        rw [hcv] at hc2
        clear hcv
        cases hfx : f x
        · have HY := Lib.hid (HYES.out x hlt hfx HA.out)
          rw [hfx] at hc2
          clear hfx
          go_wp2
          go_ret2
          exact ⟨by rw [HY.out.1, HY.out.2]; rfl, HBB.out⟩
        · have HA1 := Lib.hid (show ∀ y, y < x + 1 → f y = true from fun y hy => by
            by_cases e : y = x
            · rw [e]; exact hfx
            · exact HA.out y (by omega))
          rw [hfx] at hc2
          clear hfx
          go_wp2
          go_round
          case rel => exact ⟨x + 1, by omega, by go_num, HA1.out⟩
          case measure => simp [intOf]; omega
      · have hxQ : x = Q := by omega
        have HNN := Lib.hid (HNO.out fun y hy => HA.out y (by omega))
        clear hxQ
        go_wp2
        go_ret2
        exact ⟨by rw [HNN.out.1, HNN.out.2]; rfl, HBB.out⟩
theorem l3At_any (b Q : Nat) (cs : Array Value) (f : Nat → Bool) (x : Nat) (w : World) (h0 : w.heap[b]? = some (.cells cs 4 (0, 0))) (h1 : cs.toList = mk Q f) (hx : 4 * x + 4 ≤ Q) (hQ : Q ≤ 100) :
    Calls Try.prog 51 #[.slice (some ⟨b, 0, none⟩) Q Q, .int .i64 (x : Nat)] w fun e w' => e = .returned (.int .i64 ((cntB 4 fun d => !f (4 * x + d)) / 2 : Nat)) ∧ w = w' := by
  have H0 := Lib.hid h0
  have H1 := Lib.hid h1
  clear h0 h1
  go_enter Try.func51, Try.ntmps51
  go_wp2
  go_loop [5, 6] (fun t i => ∃ (d : Nat), d ≤ 4 ∧ i = .int .i64 d ∧ t = .int .i64 (cntB d (fun d => !f (4 * x + d)) : Nat)) (fun _ i => 4 - (intOf i).toNat)
  case atStart => exact ⟨0, Nat.zero_le _, rfl, rfl⟩
  case round =>
    obtain ⟨d, hd, rfl, rfl⟩ := hrel
    have hle := cntB_le d fun d => !f (4 * x + d)
    by_cases hlt : d < 4
    · have hxd : 4 * x + d < Q := by omega
      obtain ⟨hxs, hcv⟩ := mk_cell H1.out hxd
      have hc2 := row_cell H0.out (4 * x + d) hxs
      rw [hcv] at hc2
      have HS := Lib.hid (cntB_succ d fun d => !f (4 * x + d))
      have htn : ((4 : Int) * (x : Int) + (d : Int)).toNat = 4 * x + d := by omega
      have hxI : (4 : Int) * (x : Int) + (d : Int) < (Q : Int) := by omega
      have hxI0 : (0 : Int) ≤ (4 : Int) * (x : Int) + (d : Int) := by omega
      clear hcv
      obtain ⟨y, hy⟩ : ∃ y, f (4 * x + d) = y := ⟨_, rfl⟩
      rw [hy] at hc2
      cases y
      · have HS2 := Lib.hid (show cntB (d + 1) (fun d => !f (4 * x + d)) = cntB d (fun d => !f (4 * x + d)) + 1 by rw [HS.out, hy]; rfl)
        clear hy HS
        go_wp2
        go_round
        case rel => exact ⟨d + 1, by omega, by go_num, by rw [HS2.out]; go_num⟩
        case measure => simp [intOf]; omega
      · have HS2 := Lib.hid (show cntB (d + 1) (fun d => !f (4 * x + d)) = cntB d (fun d => !f (4 * x + d)) by rw [HS.out, hy]; rfl)
        clear hy HS
        go_wp2
        go_round
        case rel => exact ⟨d + 1, by omega, by go_num, by rw [HS2.out]⟩
        case measure => simp [intOf]; omega
    · have HD := Lib.hid (show cntB d (fun d => !f (4 * x + d)) = cntB 4 fun d => !f (4 * x + d) by rw [show d = 4 by omega])
      go_wp2
      go_ret
      exact ⟨by rw [← HD.out]; rfl, rfl⟩
set_option maxHeartbeats 800000 in
theorem sRoundAt_any (A : Option Addr) (cp : Nat) (g : List ByteArray) (c : Int) (w : World) (hr : Rd w w.heap.size A (sv g)) (hm : g.length ≤ maxLen) (hs : ∀ s ∈ g, s.size ≤ maxLen) :
    Calls Try.prog 22 #[.slice A g.length cp, .int .i64 c] w fun e w' => e = .returned (.tuple #[.int .i64 (atA g c : Nat), .bool (atB g c)]) ∧ Below w.heap.size w w' := by
  have hG := sGridIn_any A cp g w _ hr hm hs
  cases hg : gridB g
  · rw [hg] at hG
    have HG := Lib.hid hG
    have HB := Lib.hid (atB_no1 (c := c) hg)
    have HN := Lib.hid (atA_no (atB_no1 (c := c) hg))
    clear hG hg hr hm hs
    go_enter Try.func22, Try.ntmps22
    go_wp2_with fail
    refine HG.out.mono ?_
    rintro e w' ⟨rfl, hd⟩
    go_wp2
    go_ret2
    exact ⟨by rw [HN.out, HB.out]; rfl, hd.below _⟩
  rw [hg] at hG
  have HG := Lib.hid hG
  have hM := cells_25 hg
  obtain ⟨gl1, gl2⟩ := grid_len hg
  obtain ⟨gw1, gw2⟩ := grid_width hg
  obtain ⟨b, off, rfl, hbb, _⟩ := hr.at_ (sv_get g 0 (by omega))
  obtain ⟨s0, hc0, hz0⟩ : ∃ s0 : ByteArray, w.cell? ⟨b, off, none⟩ = some (.string s0) ∧ s0.size = width g := ⟨g[0], by have := hr.cell (sv_get g 0 (by omega)); rw [Nat.add_zero] at this; exact this, grid_row hg 0 (by omega)⟩
  have hz5 : s0.size ≤ 5 := by omega
  have hpos : 0 < g.length := by omega
  have hmul : (g.length : Int) * (s0.size : Int) = (cellsN g : Nat) := by unfold cellsN; rw [hz0, Int.natCast_mul]
  have hmul1 : (g.length : Int) * (s0.size : Int) ≤ 25 ∧ 0 ≤ (g.length : Int) * (s0.size : Int) := by rw [hmul]; omega
  obtain ⟨hmul2, hmul3⟩ := hmul1
  have HC := Lib.hid hc0
  clear hc0 hz0 gw1 gw2
  cases h1 : inB c 0 ((cellsN g : Int) - 1)
  · have HB := Lib.hid (atB_no2 (g := g) h1)
    have HN := Lib.hid (atA_no (atB_no2 (g := g) h1))
    rw [← hmul] at h1
    have H1 := Lib.hid h1
    clear hG hg hr hm hs h1 hmul
    go_enter Try.func22, Try.ntmps22
    go_wp2_with fail
    refine HG.out.mono ?_
    rintro e w1 ⟨rfl, hd⟩
    have hc1 : w1.cell? ⟨b, off, none⟩ = some (.string s0) := by rw [(hd.below w.heap.size).cell (p := ⟨b, off, none⟩) hbb]; exact HC.out
    go_wp2_with fail
    refine (l6In_b _ _ _ _ H1.out _).mono ?_
    rintro e w' ⟨rfl, rfl⟩
    go_wp2
    go_ret2
    exact ⟨by rw [HN.out, HB.out]; rfl, hd.below _⟩
  have h2 := inB_iff.1 h1
  obtain ⟨k, rfl⟩ := Int.eq_ofNat_of_zero_le h2.1
  have hk : k < cellsN g := by omega
  have HB := Lib.hid (atB_yes hg hk)
  have HN := Lib.hid (show atA g (k : Nat) = (cntB 4 fun d => !(fld g).beamB (4 * k + d)) / 2 by rw [atA_yes (atB_yes hg hk), Fd.times_beam (grid_hn hg) (grid_hm hg) hk])
  have hP := fun w hr => l3Marks_any (some ⟨b, off, none⟩) cp g w hr hg
  unfold MarksPost at hP
  have HP := Lib.hid hP
  have HR := Lib.hid hr
  have hQ : 4 * cellsN g ≤ 100 := by omega
  have hkQ : 4 * k + 4 ≤ 4 * cellsN g := by omega
  rw [← hmul] at h1
  have H1 := Lib.hid h1
  clear hG hg hr hm hs h1 h2 hmul hP hk hM
  generalize 4 * cellsN g = Q at *
  go_enter Try.func22, Try.ntmps22
  go_wp2_with fail
  refine HG.out.mono ?_
  rintro e w1 ⟨rfl, hd⟩
  have hc1 : w1.cell? ⟨b, off, none⟩ = some (.string s0) := by rw [(hd.below w.heap.size).cell (p := ⟨b, off, none⟩) hbb]; exact HC.out
  have HP1 := Lib.hid (HP.out _ (HR.out.later (hd.below _)))
  go_wp2_with fail
  refine (l6In_b _ _ _ _ H1.out _).mono ?_
  rintro e w' ⟨rfl, rfl⟩
  clear hc1 HP
  go_wp2_with fail
  refine HP1.out.mono ?_
  rintro e w2 ⟨b2, cs, rfl, hm0, hm1, hb0, hb1⟩
  have HBB := Lib.hid (below_next (hd.below w.heap.size) hb1)
  have HAT := Lib.hid (l3At_any b2 Q cs (fld g).beamB k w2 hm0 hm1 hkQ hQ)
  clear hm0 hm1 hb1 hd HP1 HG
  go_wp2_with fail
  refine HAT.out.mono ?_
  rintro e w' ⟨rfl, rfl⟩
  go_wp2
  go_ret2
  exact ⟨by rw [HN.out, HB.out]; rfl, HBB.out⟩
end Go.Proofs.Ythjllnabjnjpmaa
