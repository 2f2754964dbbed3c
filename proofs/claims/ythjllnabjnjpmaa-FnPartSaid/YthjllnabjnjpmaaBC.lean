/-
  CONTRACTS: beam of the program, l2Way of the reference: the whole way of a beam.
-/
import Derived.Test.YthjllnabjnjpmaaBB
import Derived.Maps.AppendAt
namespace Go.Proofs.Ythjllnabjnjpmaa
set_option maxRecDepth 100000
open Go.RowKit

theorem infoInt : (Try.prog.info? 3).map (fun i => (i.zero, i.size, i.bytes)) = some (some (.int .i64 0), 1, 8) := by kernel_rfl
/-- the cells, and the directions, of the first k steps -/
def wayC (F : Fd) (s : St) (k : Nat) : List Int := (List.range k).map fun j => (F.cellN (F.go s j) : Int)
def wayD (F : Fd) (s : St) (k : Nat) : List Int := (List.range k).map fun j => ((F.go s j).d : Int)
theorem wayC_succ (F : Fd) (s : St) (k : Nat) : wayC F s (k + 1) = wayC F s k ++ [(F.cellN (F.go s k) : Int)] := by simp [wayC, List.range_succ]
theorem wayD_succ (F : Fd) (s : St) (k : Nat) : wayD F s (k + 1) = wayD F s k ++ [((F.go s k).d : Int)] := by simp [wayD, List.range_succ]
theorem wayC_length (F : Fd) (s : St) (k : Nat) : (wayC F s k).length = k := by simp [wayC]
theorem wayD_length (F : Fd) (s : St) (k : Nat) : (wayD F s k).length = k := by simp [wayD]
/-- steps as cells of memory -/
def stC (F : Fd) (s : St) (k : Nat) : List Value := (List.range k).flatMap fun j => [.int .i64 (F.cellN (F.go s j) : Nat), .int .i64 ((F.go s j).d : Nat)]
theorem stC_succ (F : Fd) (s : St) (k : Nat) : stC F s (k + 1) = stC F s k ++ [.int .i64 (F.cellN (F.go s k) : Nat), .int .i64 ((F.go s k).d : Nat)] := by simp [stC, List.range_succ]
theorem exitI_on {F : Fd} {s : St} (h : F.exit s = none) : exitI F s = -1 := by unfold exitI; rw [h]
theorem exitI_off {F : Fd} {s : St} {q : Nat} (h : F.exit s = some q) : exitI F s = q := by unfold exitI; rw [h]
theorem nextS_on {F : Fd} {s : St} (h : F.exit s = none) : nextS F s = F.step s := by unfold nextS; rw [h]
theorem nextS_off {F : Fd} {s : St} {q : Nat} (h : F.exit s = some q) : nextS F s = s := by unfold nextS; rw [h]
theorem fld_n (g : List ByteArray) : (fld g).n = g.length := rfl
theorem fld_m (g : List ByteArray) : (fld g).m = width g := rfl
theorem grid_hn {g : List ByteArray} (hg : gridB g = true) : 1 ≤ (fld g).n := (grid_len hg).1
theorem grid_hm {g : List ByteArray} (hg : gridB g = true) : 1 ≤ (fld g).m := (grid_width hg).1
theorem own_new_ne {v v' : Value} {b H : Nat} (hne : v.ownBlock ≠ some b) (hb : b < H) (hat : v'.ownBlock = v.ownBlock ∨ v'.ownBlock = some H) : v'.ownBlock ≠ some b := by
  rcases hat with h | h
  · rw [h]; exact hne
  · rw [h]; intro e; injection e with e; omega

theorem int_one (k : IntKind) (n : Int) : ∀ u ∈ [Value.int k n], u.oneCell' = true := by simp [Value.oneCell']
theorem alloc_le {w : World} {B : Nat} (h : B ≤ w.heap.size) (o : Obj) : B ≤ (w.alloc o).heap.size := by simp; omega
def sliceLen : Value → Nat
  | .slice _ n _ => n
  | _ => 0
theorem own_len {w : World} {base e size n : Nat} {v : Value} {xs : List Value} (h : w.ownsRow base e size v n xs) : sliceLen v = n := by
  rcases h.2 with ⟨rfl, h0⟩ | ⟨g, cap, cur, rfl, _⟩
  · exact h0.symm
  · rfl
/-- an owned row over an append to another one -/
theorem own_other {w w' : World} {base e size n : Nat} {v : Value} {xs : List Value} {row : Option Nat} (h : w.ownsRow base e size v n xs) (hg : w.grownBy w' row) (hne : v.ownBlock ≠ row) : w'.ownsRow base e size v n xs := h.kept hg (.inr hne)
theorem new_ne {w : World} {base e size n H : Nat} {v1 v1' v2 : Value} {xs : List Value} (hne : v1.ownBlock ≠ v2.ownBlock) (h2 : w.ownsRow base e size v2 n xs) (hH : w.heap.size ≤ H) (hat : v1'.ownBlock = v1.ownBlock ∨ v1'.ownBlock = some H) : v1'.ownBlock ≠ v2.ownBlock := by
  rcases hat with h | h
  · rw [h]; exact hne
  · rw [h]
    intro e
    have := (h2.lt _ e.symm).2
    omega

/-- the way of a beam has come back, as cells and directions -/
def WayPost (F : Fd) (s : St) (K : Nat) (q : Int) (w : World) (e : Ending) (w' : World) : Prop :=
  ∃ A1 c1 A2 c2, e = .returned (.tuple #[.slice A1 K c1, .slice A2 K c2, .int .i64 q]) ∧ w'.ownsRow w.heap.size 3 1 (.slice A1 K c1) K (iv (wayC F s K)) ∧ w'.ownsRow w.heap.size 3 1 (.slice A2 K c2) K (iv (wayD F s K)) ∧ Below w.heap.size w w'

set_option maxRecDepth 100000 in
set_option maxHeartbeats 1600000 in
theorem l2Way_any (A : Option Addr) (cp : Nat) (g : List ByteArray) (p N q : Nat) (w : World) (hr : Rd w w.heap.size A (sv g)) (hg : gridB g = true) (hp : p < portsN g) (he : (fld g).Ends ((fld g).enter p) N q) (hN : N ≤ 100) :
    Calls Try.prog 65 #[.slice A g.length cp, .int .i64 p] w (WayPost (fld g) ((fld g).enter p) (N + 1) q w) := by
  obtain ⟨j0, hji, hy0, hy1, hy2⟩ := info_parts infoInt
  obtain ⟨hl1, hl2⟩ := grid_len hg
  obtain ⟨hw1, hw2⟩ := grid_width hg
  rw [← ports_fld] at hp
  have hs0 := Fd.enter_ok (grid_hn hg) (grid_hm hg) hp
  obtain ⟨b, off, rfl, hb, _⟩ := hr.at_ (sv_get g 0 (by omega))
  obtain ⟨s0, hc0, hz0⟩ : ∃ s0 : ByteArray, w.cell? ⟨b, off, none⟩ = some (.string s0) ∧ s0.size = width g := ⟨g[0], by have := hr.cell (sv_get g 0 (by omega)); rw [Nat.add_zero] at this; exact this, grid_row hg 0 (by omega)⟩
  have hsz : s0.size ≤ 5 := by omega
  have hsz1 : 1 ≤ s0.size := by omega
  have hpos : 0 < g.length := by omega
  have hE := fun w => l2Enter_any (fld g) p ⟨hl1, hl2⟩ ⟨hw1, hw2⟩ hp w
  rw [fld_n, fld_m, ← hz0] at hE
  have HE := Lib.hid hE
  have HZ := Lib.hid hz0
  have HG := Lib.hid hg
  have HS := Lib.hid hs0
  have HEN := Lib.hid he
  have HR := Lib.hid hr
  have hw2' : (fld g).m ≤ 5 := hw2
  clear hE hz0 hg hs0 he hr hp hw1 hw2
  obtain ⟨S0, hS0⟩ : ∃ S0, S0 = (fld g).enter p := ⟨_, rfl⟩
  rw [← hS0] at HE HS HEN ⊢
  clear hS0
  go_enter Try.func65, Try.ntmps65
  go_wp2_with fail
  refine (HE.out _).mono ?_
  rintro e w' ⟨rfl, rfl⟩
  have HO1 := Lib.hid ((own_empty w 3).alloc (.cells #[] 3))
  have ho2 := own_mono (own_empty (w.alloc (.cells #[] 3)) 3) (show w.heap.size ≤ _ by simp)
  rw [World.size_alloc] at ho2
  have HO2 := Lib.hid ho2
  clear ho2
  have HB := Lib.hid ((below_alloc1 w (.cells #[] 3)).alloc (by simp) (.cells #[] 3))
  go_wp2
  go_loopw [9, 10, 11, 12, 13] (fun v1 v2 i k d wr => ∃ (j : Nat) (s : St), j ≤ N ∧ i = .int .i64 s.r ∧ k = .int .i64 s.c ∧ d = .int .i64 s.d ∧ Hid (s = (fld g).go S0 j) ∧ Hid (wr.ownsRow w.heap.size 3 1 v1 j (iv (wayC (fld g) S0 j))) ∧
      Hid (wr.ownsRow w.heap.size 3 1 v2 j (iv (wayD (fld g) S0 j))) ∧ Hid (v1.ownBlock ≠ v2.ownBlock) ∧ Hid (Below w.heap.size w wr)) (fun v1 _ _ _ _ _ => N - sliceLen v1)
  case atStart => exact ⟨0, S0, Nat.zero_le _, rfl, rfl, rfl, rfl, HO1.out, HO2.out, by simp [Hid, Value.ownBlock], HB.out⟩
  case round =>
    obtain ⟨j, s, hj, rfl, rfl, rfl, HSJ, HO, HO', HNE, HBW⟩ := hrel
    have hok := Fd.go_ok HS.out HEN.out.on j hj
    rw [← HSJ.out] at hok
    obtain ⟨r, c, d⟩ := s
    obtain ⟨k1, k2, k3⟩ := hok
    have hsr : r < g.length := k1
    have hsc : c < width g := k2
    have hsd : d < 4 := k3
    clear k1 k2 k3
    have HBW0 := HBW
    have hrr := HR.out.below HBW.out
    obtain ⟨row, hcr, hzr, HL⟩ : ∃ row : ByteArray, wr.cell? ⟨b, off + r, none⟩ = some (.string row) ∧ row.size = width g ∧ Hid (∀ h : c < row.size, cellAt g r c = row[c]) :=
      ⟨g[r], hrr.cell (sv_get g r hsr), grid_row HG.out r hsr, fun h => cellAt_eq hsr h⟩
    have hcc : c < row.size := by omega
    have hzs : row.size = s0.size := by rw [hzr, HZ.out]
    have hc5 : c < 5 := by omega
    have hr5 : r < 5 := by omega
    have hmul := mul_bd (n := r) (m := s0.size) (a := 5) (b := 5) (by omega) hsz
    obtain ⟨hmul1, hmul2⟩ := hmul
    have HX := Lib.hid (show (r : Int) * (s0.size : Int) + (c : Int) = ((fld g).cellN ((fld g).go S0 j) : Nat) by
      rw [← HSJ.out]
      show _ = ((r * width g + c : Nat) : Int)
      rw [Int.natCast_add, Int.natCast_mul, HZ.out])
    have HD := Lib.hid (show (d : Int) = (((fld g).go S0 j).d : Nat) by rw [← HSJ.out])
    obtain ⟨o, ho⟩ : ∃ o, (fld g).out ⟨r, c, d⟩ = o := ⟨_, rfl⟩
    have ht : turnD row[c] d = o := by rw [← ho, ← HL.out hcc]; rfl
    have hok : (fld g).Ok ⟨r, c, d⟩ := ⟨hsr, hsc, hsd⟩
    have ho4 := Fd.out_lt hok
    have hlv := leave_eq hok
    have hbd := next_bd (r := r) (c := c) (d := o) hr5 hc5
    rw [ho] at ho4 hlv
    have htu := fun w => l2Bend_any row[c] d hsd w
    rw [ht] at htu
    have hst := fun w => l2Step_any r c o ho4 (by omega) (by omega) w
    have hle := fun w => l2Leave_any (fld g).n (fld g).m (nextR r o) (nextC c o) hl2 hw2' hbd.1 hbd.2 w
    rw [hlv] at hle
    rw [fld_n, fld_m, ← HZ.out] at hle
    have hj1 : j + 1 ≤ maxLen := by simp only [maxLen]; omega
    have hj2 : (j + 1) * 8 ≤ 140737488355328 := by omega
    have hwz : w.heap.size ≤ wr.heap.size := HBW.out.size
    have HLN := Lib.hid (own_len HO.out)
    have HLE := Lib.hid hle
    have HST := Lib.hid hst
    have HTU := Lib.hid htu
    have HOUT := Lib.hid ho
    have HOK := Lib.hid hok
    have HCR := Lib.hid hcr
    have hbz : b < wr.heap.size := by omega
    clear hle hst htu ho hok hlv hbd ht hrr hcr hzr hsc
    go_wp2_with (at_builtin; refine wpList_append_own_at _ rfl _ _ 36 rfl w.heap.size 3 j0 (.int .i64 0) 1 8 Try.underlying36 hji hy0 hy1 hy2 rfl (by decide) _ _ _ rfl (HO.out.alloc _) ⟨(wr).heap.size, 0, none⟩ 1 1 [_] rfl rfl (cell_one_new _ _ _) (int_one _ _) hj1 hj2 (alloc_le hwz _) ?_)
    intro v1' w2 hown2 hgrow2 _ hat2
    have HC2 := Lib.hid (show w2.ownsRow w.heap.size 3 1 v1' (j + 1) (iv (wayC (fld g) S0 (j + 1))) by rw [wayC_succ, iv_snoc, ← HX.out]; exact hown2)
    have HP2 := Lib.hid (own_other (HO'.out.alloc _) hgrow2 HNE.out.symm)
    have HN2 := Lib.hid (new_ne HNE.out HO'.out (Nat.le_succ _) hat2)
    have HB2 := Lib.hid (below_grown (HBW.out.alloc hwz (.cells #[.int .i64 ((r : Int) * (s0.size : Int) + (c : Int))] 3)) hgrow2 (fun g hg => own_ge HO.out g hg))
    have hwz2 : w.heap.size ≤ w2.heap.size := HB2.out.size
    clear hown2 hgrow2 hat2 HO HO' HNE HBW
    go_wp2_with (at_builtin; refine wpList_append_own_at _ rfl _ _ 36 rfl w.heap.size 3 j0 (.int .i64 0) 1 8 Try.underlying36 hji hy0 hy1 hy2 rfl (by decide) _ _ _ rfl (HP2.out.alloc _) ⟨(w2).heap.size, 0, none⟩ 1 1 [_] rfl rfl (cell_one_new _ _ _) (int_one _ _) hj1 hj2 (alloc_le hwz2 _) ?_)
    intro v2' w3 hown3 hgrow3 _ hat3
    have HD3 := Lib.hid (show w3.ownsRow w.heap.size 3 1 v2' (j + 1) (iv (wayD (fld g) S0 (j + 1))) by rw [wayD_succ, iv_snoc, ← HD.out]; exact hown3)
    have HC3 := Lib.hid (own_other (HC2.out.alloc _) hgrow3 HN2.out)
    have HN3 := Lib.hid (new_ne HN2.out.symm HC2.out (Nat.le_succ _) hat3).symm
    have HB3 := Lib.hid (below_grown (HB2.out.alloc hwz2 (.cells #[.int .i64 (d : Int)] 3)) hgrow3 (fun g hg => own_ge HP2.out g hg))
    have hwz3 : w.heap.size ≤ w3.heap.size := HB3.out.size
    clear hown3 hgrow3 hat3 HC2 HP2 HN2 HB2
    have hcr3 : w3.cell? ⟨b, off + r, none⟩ = some (.string row) := by
      have h1 := (HR.out.below HB3.out).cell (sv_get g r hsr)
      have h2 := (HR.out.below HBW0.out).cell (sv_get g r hsr)
      rw [h1, ← h2]; exact HCR.out
    go_wp2_with fail
    refine (HTU.out _).mono ?_
    rintro e w' ⟨rfl, rfl⟩
    clear HTU hcr3
    go_wp2_with fail
    refine (HST.out _).mono ?_
    rintro e w' ⟨rfl, rfl⟩
    clear HST
    go_wp2_with fail
    refine (HLE.out _).mono ?_
    rintro e w' ⟨rfl, rfl⟩
    clear HLE
    have HSL := Lib.hid (own_len HC3.out)
    by_cases hjN : j = N
    · have hei : exitI (fld g) ⟨r, c, d⟩ = (q : Int) := by
        rw [HSJ.out, hjN]; exact exitI_off HEN.out.off
      have HJ := Lib.hid hjN
      clear hjN
      have hq0 : (0 : Int) ≤ (q : Int) := Int.natCast_nonneg _
      rw [hei]
      obtain ⟨A1, cc1, rfl, _, _⟩ := own_form HC3.out
      obtain ⟨A2, cc2, rfl, _, _⟩ := own_form HD3.out
      clear hei
      go_wp2
      go_ret3
      exact ⟨A1, cc1, A2, cc2, by rw [← HJ.out]; rfl, by rw [← HJ.out]; exact HC3.out, by rw [← HJ.out]; exact HD3.out, HB3.out⟩
    · have hjl : j < N := by omega
      have hex : (fld g).exit ⟨r, c, d⟩ = none := by rw [HSJ.out]; exact HEN.out.on j hjl
      obtain ⟨n1, n2, n3⟩ := next_eq HOK.out hex
      rw [HOUT.out] at n1 n2 n3
      rw [exitI_on hex, n1, n2]
      have HST2 := Lib.hid (show (fld g).step ⟨r, c, d⟩ = (fld g).go S0 (j + 1) by rw [HSJ.out]; rfl)
      have HD4 := Lib.hid n3
      clear n1 n2 n3 hex
      go_wp2
      go_roundw
      case rel => exact ⟨j + 1, (fld g).step ⟨r, c, d⟩, by omega, rfl, rfl, by rw [HD4.out], HST2.out, HC3.out, HD3.out, HN3.out, HB3.out⟩
      case measure =>
        have h1 := HLN.out
        have h2 := HSL.out
        omega
end Go.Proofs.Ythjllnabjnjpmaa
