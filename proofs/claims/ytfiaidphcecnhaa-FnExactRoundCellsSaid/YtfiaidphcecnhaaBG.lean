/-
  CONTRACTS: letterAt, l2Cell, BeamTurns, BeamFirst of the program and of the reference.
-/
import Derived.Test.YtfiaidphcecnhaaBF
namespace Go.Proofs.Ytfiaidphcecnhaa
open Go.RowKit

theorem letterAt_any (A : Option Addr) (cp : Nat) (g : List ByteArray) (x : Nat) (w : World) (B : Nat) (hr : Rd w B A (sv g)) (hg : gridB g = true) (hx : x < cellsN g) :
    Calls Try.prog 67 #[.slice A g.length cp, .int .i64 x] w fun e w' => e = .returned (.int .u8 ((fld g).at_ x).toNat) ∧ Dr w w' := by
  obtain ⟨hl1, hl2⟩ := grid_len hg
  obtain ⟨hw1, hw2⟩ := grid_width hg
  obtain ⟨r, hrr⟩ : ∃ r, x / width g = r := ⟨_, rfl⟩
  obtain ⟨c, hcc⟩ : ∃ c, x % width g = c := ⟨_, rfl⟩
  have hsr : r < g.length := by rw [← hrr, Nat.div_lt_iff_lt_mul (by omega)]; exact hx
  have hsc : c < width g := by rw [← hcc]; exact Nat.mod_lt _ (by omega)
  have hx25 : x < 25 := by
    have := (mul_bd hl2 hw2).1
    rw [← Int.natCast_mul] at this
    unfold cellsN at hx; omega
  obtain ⟨b, off, rfl, hb, _⟩ := hr.at_ (sv_get g 0 (by omega))
  obtain ⟨s0, hc0, hz0⟩ : ∃ s0 : ByteArray, w.cell? ⟨b, off, none⟩ = some (.string s0) ∧ s0.size = width g := ⟨g[0], by have := hr.cell (sv_get g 0 (by omega)); rw [Nat.add_zero] at this; exact this, grid_row hg 0 (by omega)⟩
  obtain ⟨row, hcr, hzr, HL⟩ : ∃ row : ByteArray, w.cell? ⟨b, off + r, none⟩ = some (.string row) ∧ row.size = width g ∧ Hid (∀ h : c < row.size, cellAt g r c = row[c]) :=
    ⟨g[r], hr.cell (sv_get g r hsr), grid_row hg r hsr, fun h => cellAt_eq hsr h⟩
  have hpos : 0 < g.length := by omega
  have hcl : c < row.size := by omega
  have hc5 : c < 5 := by omega
  have hr5 : r < 5 := by omega
  rw [← hz0] at hrr hcc
  have d1 : (x : Int) / (s0.size : Int) = (r : Int) := by rw [← hrr]; rfl
  have d2 : (x : Int) % (s0.size : Int) = (c : Int) := by rw [← hcc]; rfl
  have d3 : (x : Int).tdiv (s0.size : Int) = (r : Int) := by rw [← hrr]; rfl
  have d4 : (x : Int).tmod (s0.size : Int) = (c : Int) := by rw [← hcc]; rfl
  have hnz : ¬ (s0.size = 0) := by omega
  have hwr : IntKind.i64.wrap (r : Int) = (r : Int) := IntWalk.i64_in _ (by omega)
  have hsz : s0.size ≤ 5 := by omega
  have HA := Lib.hid (show (fld g).at_ x = row[c] by
    rw [← HL.out hcl, ← hrr, ← hcc, hz0]; rfl)
  clear hrr hcc hz0 hzr hr hg hw1 hw2 hsc
  go_enter Try.func67, Try.ntmps67
  go_wp2_with fail
  go_quiet (fail)
  go_wp2
  go_ret
  exact ⟨by rw [HA.out]; rfl, (Dr.refl _).drewN _⟩
theorem l2Cell_any (A : Option Addr) (cp : Nat) (g : List ByteArray) (x : Nat) (w : World) (B : Nat) (hr : Rd w B A (sv g)) (hg : gridB g = true) (hx : x < cellsN g) :
    Calls Try.prog 68 #[.slice A g.length cp, .int .i64 x] w fun e w' => e = .returned (.int .u8 ((fld g).at_ x).toNat) ∧ Dr w w' := by
  obtain ⟨hl1, hl2⟩ := grid_len hg
  obtain ⟨hw1, hw2⟩ := grid_width hg
  obtain ⟨r, hrr⟩ : ∃ r, x / width g = r := ⟨_, rfl⟩
  obtain ⟨c, hcc⟩ : ∃ c, x % width g = c := ⟨_, rfl⟩
  have hsr : r < g.length := by rw [← hrr, Nat.div_lt_iff_lt_mul (by omega)]; exact hx
  have hsc : c < width g := by rw [← hcc]; exact Nat.mod_lt _ (by omega)
  have hx25 : x < 25 := by
    have := (mul_bd hl2 hw2).1
    rw [← Int.natCast_mul] at this
    unfold cellsN at hx; omega
  obtain ⟨b, off, rfl, hb, _⟩ := hr.at_ (sv_get g 0 (by omega))
  obtain ⟨s0, hc0, hz0⟩ : ∃ s0 : ByteArray, w.cell? ⟨b, off, none⟩ = some (.string s0) ∧ s0.size = width g := ⟨g[0], by have := hr.cell (sv_get g 0 (by omega)); rw [Nat.add_zero] at this; exact this, grid_row hg 0 (by omega)⟩
  obtain ⟨row, hcr, hzr, HL⟩ : ∃ row : ByteArray, w.cell? ⟨b, off + r, none⟩ = some (.string row) ∧ row.size = width g ∧ Hid (∀ h : c < row.size, cellAt g r c = row[c]) :=
    ⟨g[r], hr.cell (sv_get g r hsr), grid_row hg r hsr, fun h => cellAt_eq hsr h⟩
  have hpos : 0 < g.length := by omega
  have hcl : c < row.size := by omega
  have hc5 : c < 5 := by omega
  have hr5 : r < 5 := by omega
  rw [← hz0] at hrr hcc
  have d1 : (x : Int) / (s0.size : Int) = (r : Int) := by rw [← hrr]; rfl
  have d2 : (x : Int) % (s0.size : Int) = (c : Int) := by rw [← hcc]; rfl
  have d3 : (x : Int).tdiv (s0.size : Int) = (r : Int) := by rw [← hrr]; rfl
  have d4 : (x : Int).tmod (s0.size : Int) = (c : Int) := by rw [← hcc]; rfl
  have hnz : ¬ (s0.size = 0) := by omega
  have hwr : IntKind.i64.wrap (r : Int) = (r : Int) := IntWalk.i64_in _ (by omega)
  have hsz : s0.size ≤ 5 := by omega
  have HA := Lib.hid (show (fld g).at_ x = row[c] by
    rw [← HL.out hcl, ← hrr, ← hcc, hz0]; rfl)
  clear hrr hcc hz0 hzr hr hg hw1 hw2 hsc
  go_enter Try.func68, Try.ntmps68
  go_wp2_with fail
  go_quiet (fail)
  go_wp2
  go_ret
  exact ⟨by rw [HA.out]; rfl, (Dr.refl _).drewN _⟩
theorem niv_get (l : List Nat) (k : Nat) (hk : k < l.length) : (iv (ni l))[k]? = some (.int .i64 (l[k] : Nat)) := by simp [iv, ni, hk]
theorem way_mem {g : List ByteArray} {p : Int} {x : Nat} (h : x ∈ wayA g p) : gridB g = true ∧ x < cellsN g := by
  cases hb : givenB g p
  · rw [wayA_no hb] at h; cases h
  · obtain ⟨k, rfl, hk, hg⟩ := given_nat hb
    rw [wayA_yes hb] at h
    obtain ⟨he, _⟩ := ends_B hg hk
    exact ⟨hg, Fd.way_lt (Fd.enter_ok (grid_hn hg) (grid_hm hg) (by rw [ports_fld]; exact hk)) he.on x h⟩
theorem mir_take (F : Fd) (l : List Nat) (k : Nat) (hk : k < l.length) : F.mirrorsOn (l.take (k + 1)) = F.mirrorsOn (l.take k) + if F.at_ l[k] != 46 then 1 else 0 := by
  rw [List.take_succ_eq_append_getElem hk, Fd.mirrorsOn_snoc]
theorem mir_le (F : Fd) (l : List Nat) (k : Nat) : F.mirrorsOn (l.take k) ≤ k := Nat.le_trans (Fd.mirrorsOn_le _) (List.length_take_le _ _)
noncomputable def turnsA (g : List ByteArray) (p : Int) : Nat := (fld g).mirrorsOn (wayA g p)
theorem ni_len100 (g : List ByteArray) (p : Int) : (ni (wayA g p)).length = (wayA g p).length := ni_length _

set_option maxHeartbeats 800000 in
theorem iBeamTurns_any (A : Option Addr) (c : Nat) (g : List ByteArray) (p : Int) (w : World) (hr : Rd w w.heap.size A (sv g)) (hm : g.length ≤ maxLen) (hs : ∀ s ∈ g, s.size ≤ maxLen) :
    Calls Try.prog 40 #[.slice A g.length c, .int .i64 p] w fun e w' => e = .returned (.tuple #[.int .i64 (turnsA g p : Nat), .bool (givenB g p)]) ∧ Below w.heap.size w w' := by
  have HW := Lib.hid (iBeamWay_any A c g p w hr hm hs)
  have HR := Lib.hid hr
  clear hr hm hs
  go_enter Try.func40, Try.ntmps40
  go_wp2_with fail
  refine HW.out.mono ?_
  rintro e w1 ⟨A1, c1, rfl, ho1, hb1⟩
  have HL := Lib.hid (Rd.of_own ho1)
  have HG := Lib.hid (HR.out.later hb1)
  have HB := Lib.hid hb1
  clear ho1 hb1 HW HR
  rw [ni_len100]
  have HM := Lib.hid (fun x (h : x ∈ wayA g p) => way_mem h)
  have HT := Lib.hid (show turnsA g p = (fld g).mirrorsOn (wayA g p) from rfl)
  have hlen := wayA_len g p
  generalize wayA g p = l at *
  go_wp2
  go_loopw [8, 19] (fun t i wr => ∃ (k : Nat), k ≤ l.length ∧ i = .int .i64 k ∧ t = .int .i64 ((fld g).mirrorsOn (l.take k) : Nat) ∧ Hid (Dr w1 wr)) (fun _ i _ => l.length - (intOf i).toNat)
  case atStart => exact ⟨0, Nat.zero_le _, rfl, rfl, Dr.refl _⟩
  case round =>
    obtain ⟨k, hk, rfl, rfl, HD⟩ := hrel
    have hml := mir_le (fld g) l k
    by_cases hlt : k < l.length
    · obtain ⟨hg, hx⟩ := HM.out l[k] (List.getElem_mem hlt)
      have hc := HL.out.below (HD.out.below _)
      obtain ⟨b, off, rfl, hbb, x0⟩ := hc.at_ (niv_get l k hlt)
      have HLA := Lib.hid (letterAt_any A c g l[k] wr _ (HG.out.below (HD.out.below _)) hg hx)
      have HMT := Lib.hid (mir_take (fld g) l k hlt)
      obtain ⟨x, hxx⟩ : ∃ x, l[k] = x := ⟨_, rfl⟩
      rw [hxx] at HLA HMT x0
      have hbn := u8_bne ((fld g).at_ x) 46
      clear hc hg hx hxx
      cases hv : ((fld g).at_ x != 46)
      · rw [hv] at hbn HMT
        have hbn : ((((fld g).at_ x).toNat : Int) != 46) = false := hbn
        clear hv
        go_wp2_with fail
        refine HLA.out.mono ?_
        rintro e w2 ⟨rfl, hd2⟩
        go_wp2
        go_roundw
        case rel => exact ⟨k + 1, by omega, by go_num, by rw [HMT.out]; rfl, HD.out.trans hd2⟩
        case measure => simp [intOf]; omega
      · rw [hv] at hbn HMT
        have hbn : ((((fld g).at_ x).toNat : Int) != 46) = true := hbn
        clear hv
        go_wp2_with fail
        refine HLA.out.mono ?_
        rintro e w2 ⟨rfl, hd2⟩
        go_wp2
        go_roundw
        case rel => exact ⟨k + 1, by omega, by go_num, by rw [HMT.out, if_pos trivial]; go_num, HD.out.trans hd2⟩
        case measure => simp [intOf]; omega
    · have HK := Lib.hid (show (fld g).mirrorsOn (l.take k) = (fld g).mirrorsOn l by rw [List.take_of_length_le (by omega)])
      go_wp2
      go_ret2
      exact ⟨by rw [HT.out, ← HK.out]; rfl, below_next HB.out (HD.out.below _)⟩
set_option maxHeartbeats 800000 in
theorem sBeamTurns_any (A : Option Addr) (c : Nat) (g : List ByteArray) (p : Int) (w : World) (hr : Rd w w.heap.size A (sv g)) (hm : g.length ≤ maxLen) (hs : ∀ s ∈ g, s.size ≤ maxLen) :
    Calls Try.prog 42 #[.slice A g.length c, .int .i64 p] w fun e w' => e = .returned (.tuple #[.int .i64 (turnsA g p : Nat), .bool (givenB g p)]) ∧ Below w.heap.size w w' := by
  have hP := l2Given_any A c g p w _ hr hm hs
  cases hb : givenB g p
  · rw [hb] at hP
    have HP := Lib.hid hP
    have HN := Lib.hid (show turnsA g p = 0 by unfold turnsA; rw [wayA_no hb]; rfl)
    clear hP hb hr hm hs
    go_enter Try.func42, Try.ntmps42
    go_wp2_with fail
    refine HP.out.mono ?_
    rintro e w' ⟨rfl, hd⟩
    go_wp2
    go_ret2
    exact ⟨by rw [HN.out]; rfl, hd.below _⟩
  · rw [hb] at hP
    obtain ⟨k, rfl, hk, hg⟩ := given_nat hb
    obtain ⟨he, hN⟩ := ends_B hg hk
    have HB := Lib.hid (fun w hr => l2Way_any A c g k _ _ w hr hg hk he hN)
    have HP := Lib.hid hP
    have HN1 := Lib.hid (wayA_yes_len hb)
    have HN2 := Lib.hid (wayA_yes_iv hb)
    have HG := Lib.hid hg
    clear hP hb hm hs he hN hg
    go_enter Try.func42, Try.ntmps42
    go_wp2_with fail
    refine HP.out.mono ?_
    rintro e w' ⟨rfl, hd⟩
    have hr' := hr.later (hd.below _)
    clear hr
    go_wp2_with fail
    refine (HB.out _ hr').mono ?_
    rintro e w1 ⟨A1, c1, A2, c2, rfl, ho1, ho2, hb1⟩
    rw [HN2.out] at ho1
    have hL1 := Rd.of_own ho1
    have HL := Lib.hid hL1
    have HR := Lib.hid (hr'.later hb1)
    have HW := Lib.hid (below_next (hd.below _) hb1)
    clear ho1 ho2 hL1 hb1 hr' hd HB HN2 HP
    rw [← HN1.out, ni_len100]
    have HM := Lib.hid (fun x (h : x ∈ wayA g k) => way_mem h)
    have HT := Lib.hid (show turnsA g k = (fld g).mirrorsOn (wayA g k) from rfl)
    have hlen := wayA_len g k
    clear HN1
    generalize wayA g k = l at *
    go_wp2
    go_loopw [6, 10] (fun t i wr => ∃ (k : Nat), k ≤ l.length ∧ i = .int .i64 k ∧ t = .int .i64 ((fld g).mirrorsOn (l.take k) : Nat) ∧ Hid (Dr w1 wr)) (fun _ i _ => l.length - (intOf i).toNat)
    case atStart => exact ⟨0, Nat.zero_le _, rfl, rfl, Dr.refl _⟩
    case round =>
      obtain ⟨k, hk, rfl, rfl, HD⟩ := hrel
      have hml := mir_le (fld g) l k
      by_cases hlt : k < l.length
      · obtain ⟨hg, hx⟩ := HM.out l[k] (List.getElem_mem hlt)
        have hc := HL.out.below (HD.out.below _)
        obtain ⟨b, off, rfl, hbb, x0⟩ := hc.at_ (niv_get l k hlt)
        have HLA := Lib.hid (l2Cell_any A c g l[k] wr _ (HR.out.below (HD.out.below _)) hg hx)
        have HMT := Lib.hid (mir_take (fld g) l k hlt)
        obtain ⟨x, hxx⟩ : ∃ x, l[k] = x := ⟨_, rfl⟩
        rw [hxx] at HLA HMT x0
        have hbn := u8_bne ((fld g).at_ x) 46
        clear hc hg hx hxx
        cases hv : ((fld g).at_ x != 46)
        · rw [hv] at hbn HMT
          have hbn : ((((fld g).at_ x).toNat : Int) != 46) = false := hbn
          clear hv
          go_wp2_with fail
          refine HLA.out.mono ?_
          rintro e w2 ⟨rfl, hd2⟩
          go_wp2
          go_roundw
          case rel => exact ⟨k + 1, by omega, by go_num, by rw [HMT.out]; rfl, HD.out.trans hd2⟩
          case measure => simp [intOf]; omega
        · rw [hv] at hbn HMT
          have hbn : ((((fld g).at_ x).toNat : Int) != 46) = true := hbn
          clear hv
          go_wp2_with fail
          refine HLA.out.mono ?_
          rintro e w2 ⟨rfl, hd2⟩
          go_wp2
          go_roundw
          case rel => exact ⟨k + 1, by omega, by go_num, by rw [HMT.out, if_pos trivial]; go_num, HD.out.trans hd2⟩
          case measure => simp [intOf]; omega
      · have HK := Lib.hid (show (fld g).mirrorsOn (l.take k) = (fld g).mirrorsOn l by rw [List.take_of_length_le (by omega)])
        go_wp2
        go_ret2
        exact ⟨by rw [HT.out, ← HK.out]; rfl, below_next HW.out (HD.out.below _)⟩
/-! ### the first mirror -/
noncomputable def firstO (g : List ByteArray) (p : Int) : Option Nat := (wayA g p).find? fun x => (fld g).at_ x != 46
noncomputable def firstA (g : List ByteArray) (p : Int) : Nat := (firstO g p).getD 0
noncomputable def firstB (g : List ByteArray) (p : Int) : Bool := (firstO g p).isSome
theorem find_at (P : Nat → Bool) : ∀ (l : List Nat) (k : Nat) (hk : k < l.length), (∀ x ∈ l.take k, P x = false) → P l[k] = true → l.find? P = some l[k]
  | a :: l, 0, _, _, h => by rw [List.getElem_cons_zero] at h ⊢; rw [List.find?_cons_of_pos h]
  | a :: l, k + 1, hk, hn, h => by
    have h1 := hn a (by simp)
    rw [List.find?_cons_of_neg (by rw [h1]; decide)]
    rw [List.getElem_cons_succ] at h ⊢
    exact find_at P l k (by simpa using hk) (fun x hx => hn x (by simp [hx])) h
set_option maxHeartbeats 800000 in
theorem iBeamFirst_any (A : Option Addr) (c : Nat) (g : List ByteArray) (p : Int) (w : World) (hr : Rd w w.heap.size A (sv g)) (hm : g.length ≤ maxLen) (hs : ∀ s ∈ g, s.size ≤ maxLen) :
    Calls Try.prog 38 #[.slice A g.length c, .int .i64 p] w fun e w' => e = .returned (.tuple #[.int .i64 (firstA g p : Nat), .bool (firstB g p)]) ∧ Below w.heap.size w w' := by
  unfold firstA firstB
  obtain ⟨fo, hfo⟩ : ∃ fo, firstO g p = fo := ⟨_, rfl⟩
  have HT := Lib.hid (show fo = (wayA g p).find? (fun x => (fld g).at_ x != 46) by rw [← hfo]; rfl)
  rw [hfo]
  clear hfo
  have HW := Lib.hid (iBeamWay_any A c g p w hr hm hs)
  have HR := Lib.hid hr
  clear hr hm hs
  go_enter Try.func38, Try.ntmps38
  go_wp2_with fail
  refine HW.out.mono ?_
  rintro e w1 ⟨A1, c1, rfl, ho1, hb1⟩
  have HL := Lib.hid (Rd.of_own ho1)
  have HG := Lib.hid (HR.out.later hb1)
  have HB := Lib.hid hb1
  clear ho1 hb1 HW HR
  rw [ni_len100]
  have HM := Lib.hid (fun x (h : x ∈ wayA g p) => way_mem h)
  have hlen := wayA_len g p
  generalize wayA g p = l at *
  go_wp2
  go_loopw [18] (fun i wr => ∃ (k : Nat), k ≤ l.length ∧ i = .int .i64 k ∧ Hid (∀ x ∈ l.take k, ((fld g).at_ x != 46) = false) ∧ Hid (Dr w1 wr)) (fun i _ => l.length - (intOf i).toNat)
  case atStart => exact ⟨0, Nat.zero_le _, rfl, by simp [Hid], Dr.refl _⟩
  case round =>
    obtain ⟨k, hk, rfl, HNO, HD⟩ := hrel
    by_cases hlt : k < l.length
    · obtain ⟨hg, hx⟩ := HM.out l[k] (List.getElem_mem hlt)
      have hc := HL.out.below (HD.out.below _)
      obtain ⟨b, off, rfl, hbb, x0⟩ := hc.at_ (niv_get l k hlt)
      have HLA := Lib.hid (letterAt_any A c g l[k] wr _ (HG.out.below (HD.out.below _)) hg hx)
      have HTK := Lib.hid (List.take_succ_eq_append_getElem hlt)
      have HFA := Lib.hid (find_at (fun x => (fld g).at_ x != 46) l k hlt HNO.out)
      obtain ⟨x, hxx⟩ : ∃ x, l[k] = x := ⟨_, rfl⟩
      rw [hxx] at HLA HTK x0 HFA
      have hbn := u8_bne ((fld g).at_ x) 46
      clear hc hg hx hxx
      cases hv : ((fld g).at_ x != 46)
      · rw [hv] at hbn
        have hbn : ((((fld g).at_ x).toNat : Int) != 46) = false := hbn
        have HV := Lib.hid hv
        clear hv
        go_wp2_with fail
        refine HLA.out.mono ?_
        rintro e w2 ⟨rfl, hd2⟩
        go_wp2
        go_roundw
        case rel => exact ⟨k + 1, by omega, by go_num, (by
          intro y hy
          rw [HTK.out] at hy
          rcases List.mem_append.1 hy with h | h
          · exact HNO.out y h
          · rw [List.mem_singleton.1 h]; exact HV.out), HD.out.trans hd2⟩
        case measure => simp [intOf]; omega
      · rw [hv] at hbn
        have hbn : ((((fld g).at_ x).toNat : Int) != 46) = true := hbn
        have HV := Lib.hid (HFA.out hv)
        clear hv HFA
        go_wp2_with fail
        refine HLA.out.mono ?_
        rintro e w2 ⟨rfl, hd2⟩
        go_wp2
        go_ret2
        exact ⟨by rw [HT.out, HV.out]; rfl, below_next HB.out ((HD.out.trans hd2).below _)⟩
    · have HK := Lib.hid (show l.find? (fun x => (fld g).at_ x != 46) = none by
        rw [List.find?_eq_none]
        intro x hx
        have h1 := HNO.out x (by rw [List.take_of_length_le (by omega)]; exact hx)
        rw [h1]; decide)
      go_wp2
      go_ret2
      exact ⟨by rw [HT.out, HK.out]; rfl, below_next HB.out (HD.out.below _)⟩
set_option maxHeartbeats 800000 in
theorem sBeamFirst_any (A : Option Addr) (c : Nat) (g : List ByteArray) (p : Int) (w : World) (hr : Rd w w.heap.size A (sv g)) (hm : g.length ≤ maxLen) (hs : ∀ s ∈ g, s.size ≤ maxLen) :
    Calls Try.prog 39 #[.slice A g.length c, .int .i64 p] w fun e w' => e = .returned (.tuple #[.int .i64 (firstA g p : Nat), .bool (firstB g p)]) ∧ Below w.heap.size w w' := by
  have hP := l2Given_any A c g p w _ hr hm hs
  cases hb : givenB g p
  · rw [hb] at hP
    have HP := Lib.hid hP
    have HN := Lib.hid (show firstA g p = 0 ∧ firstB g p = false by unfold firstA firstB firstO; rw [wayA_no hb]; exact ⟨rfl, rfl⟩)
    clear hP hb hr hm hs
    go_enter Try.func39, Try.ntmps39
    go_wp2_with fail
    refine HP.out.mono ?_
    rintro e w' ⟨rfl, hd⟩
    go_wp2
    go_ret2
    exact ⟨by rw [HN.out.1, HN.out.2]; rfl, hd.below _⟩
  · rw [hb] at hP
    obtain ⟨k, rfl, hk, hg⟩ := given_nat hb
    unfold firstA firstB
    obtain ⟨fo, hfo⟩ : ∃ fo, firstO g k = fo := ⟨_, rfl⟩
    have HT := Lib.hid (show fo = (wayA g k).find? (fun x => (fld g).at_ x != 46) by rw [← hfo]; rfl)
    rw [hfo]
    clear hfo
    obtain ⟨he, hN⟩ := ends_B hg hk
    have HB := Lib.hid (fun w hr => l2Way_any A c g k _ _ w hr hg hk he hN)
    have HP := Lib.hid hP
    have HN1 := Lib.hid (wayA_yes_len hb)
    have HN2 := Lib.hid (wayA_yes_iv hb)
    have HG := Lib.hid hg
    clear hP hb hm hs he hN hg
    go_enter Try.func39, Try.ntmps39
    go_wp2_with fail
    refine HP.out.mono ?_
    rintro e w' ⟨rfl, hd⟩
    have hr' := hr.later (hd.below _)
    clear hr
    go_wp2_with fail
    refine (HB.out _ hr').mono ?_
    rintro e w1 ⟨A1, c1, A2, c2, rfl, ho1, ho2, hb1⟩
    rw [HN2.out] at ho1
    have hL1 := Rd.of_own ho1
    have HL := Lib.hid hL1
    have HR := Lib.hid (hr'.later hb1)
    have HW := Lib.hid (below_next (hd.below _) hb1)
    clear ho1 ho2 hL1 hb1 hr' hd HB HN2 HP
    rw [← HN1.out, ni_len100]
    have HM := Lib.hid (fun x (h : x ∈ wayA g k) => way_mem h)
    have hlen := wayA_len g k
    clear HN1
    generalize wayA g k = l at *
    go_wp2
    go_loopw [9] (fun i wr => ∃ (k : Nat), k ≤ l.length ∧ i = .int .i64 k ∧ Hid (∀ x ∈ l.take k, ((fld g).at_ x != 46) = false) ∧ Hid (Dr w1 wr)) (fun i _ => l.length - (intOf i).toNat)
    case atStart => exact ⟨0, Nat.zero_le _, rfl, by simp [Hid], Dr.refl _⟩
    case round =>
      obtain ⟨k, hk, rfl, HNO, HD⟩ := hrel
      by_cases hlt : k < l.length
      · obtain ⟨hg, hx⟩ := HM.out l[k] (List.getElem_mem hlt)
        have hc := HL.out.below (HD.out.below _)
        obtain ⟨b, off, rfl, hbb, x0⟩ := hc.at_ (niv_get l k hlt)
        have HLA := Lib.hid (l2Cell_any A c g l[k] wr _ (HR.out.below (HD.out.below _)) hg hx)
        have HTK := Lib.hid (List.take_succ_eq_append_getElem hlt)
        have HFA := Lib.hid (find_at (fun x => (fld g).at_ x != 46) l k hlt HNO.out)
        have HCC := Lib.hid (fun w2 (hd : Dr wr w2) => (hc.below (hd.below _)).cell (niv_get l k hlt))
        obtain ⟨x, hxx⟩ : ∃ x, l[k] = x := ⟨_, rfl⟩
        rw [hxx] at HLA HTK x0 HFA HCC
        have hbn := u8_bne ((fld g).at_ x) 46
        clear hc hg hx hxx
        cases hv : ((fld g).at_ x != 46)
        · rw [hv] at hbn
          have hbn : ((((fld g).at_ x).toNat : Int) != 46) = false := hbn
          have HV := Lib.hid hv
          clear hv
          go_wp2_with fail
          refine HLA.out.mono ?_
          rintro e w2 ⟨rfl, hd2⟩
          go_wp2
          go_roundw
          case rel => exact ⟨k + 1, by omega, by go_num, (by
            intro y hy
            rw [HTK.out] at hy
            rcases List.mem_append.1 hy with h | h
            · exact HNO.out y h
            · rw [List.mem_singleton.1 h]; exact HV.out), HD.out.trans hd2⟩
          case measure => simp [intOf]; omega
        · rw [hv] at hbn
          have hbn : ((((fld g).at_ x).toNat : Int) != 46) = true := hbn
          have HV := Lib.hid (HFA.out hv)
          clear hv HFA
          go_wp2_with fail
          refine HLA.out.mono ?_
          rintro e w2 ⟨rfl, hd2⟩
          have x2 := HCC.out w2 hd2
          go_wp2
          go_ret2
          exact ⟨by rw [HT.out, HV.out]; rfl, below_next HW.out ((HD.out.trans hd2).below _)⟩
      · have HK := Lib.hid (show l.find? (fun x => (fld g).at_ x != 46) = none by
          rw [List.find?_eq_none]
          intro x hx
          have h1 := HNO.out x (by rw [List.take_of_length_le (by omega)]; exact hx)
          rw [h1]; decide)
        go_wp2
        go_ret2
        exact ⟨by rw [HT.out, HK.out]; rfl, below_next HW.out (HD.out.below _)⟩
end Go.Proofs.Ytfiaidphcecnhaa
