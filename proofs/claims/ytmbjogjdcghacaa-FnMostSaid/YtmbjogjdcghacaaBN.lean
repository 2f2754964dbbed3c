/-
  CONTRACTS: l3Marks, l3Rounds of the reference.
-/
import Derived.Test.YtmbjogjdcghacaaBL
import Derived.Test.YtmbjogjdcghacaaPH
namespace Go.Proofs.Ytmbjogjdcghacaa
open Go.RowKit

theorem grown_drew {w a : World} {row : Option Nat} (h : w.grownBy a row) : w.grownBy a.drew row := ⟨h.os, h.tape, h.output, h.size, h.block⟩
theorem own_drew' {w : World} {base e size n : Nat} {v : Value} {xs : List Value} (h : w.ownsRow base e size v n xs) : w.drew.ownsRow base e size v n xs := h
/-- a row of marks -/
def mk (M : Nat) (f : Nat → Bool) : List Value := (List.range M).map fun y => .bool (f y)
theorem mk_length (M : Nat) (f : Nat → Bool) : (mk M f).length = M := by simp [mk]
theorem mk_get (M : Nat) (f : Nat → Bool) (x : Nat) (hx : x < M) : (mk M f)[x]? = some (.bool (f x)) := by simp [mk, hx]
theorem mk_set (M : Nat) (f : Nat → Bool) (x : Nat) (_hx : x < M) : (mk M f).set x (.bool true) = mk M fun y => f y || decide (y = x) := by
  refine List.ext_getElem (by simp [mk]) fun k h1 h2 => ?_
  rw [List.getElem_set]
  simp only [mk, List.getElem_map, List.getElem_range]
  by_cases h : x = k
  · subst h; simp
  · have h' : ¬ k = x := fun e => h e.symm
    rw [if_neg h]; simp [h']
theorem mk_nil (M : Nat) : (madeCells #[Value.bool false] M).toList = mk M fun _ => false := by
  refine List.ext_getElem (by simp [madeCells, mk]) fun k h1 h2 => ?_
  simp [madeCells, mk, Nat.mod_one]
theorem mk_cell {M : Nat} {f : Nat → Bool} {cs : Array Value} (h : cs.toList = mk M f) {x : Nat} (hx : x < M) : ∃ hxs : x < cs.size, cs[x] = .bool (f x) := by
  have hsz : cs.size = M := by
    have := congrArg List.length h
    rw [Array.length_toList, mk_length] at this; exact this
  refine ⟨by omega, ?_⟩
  have h1 : cs.toList[x]? = some (cs[x]'(by omega)) := by rw [Array.getElem?_toList, Array.getElem?_eq_getElem]
  rw [h, mk_get M f x hx] at h1
  injection h1 with h1
  exact h1.symm
theorem mk_size {M : Nat} {f : Nat → Bool} {cs : Array Value} (h : cs.toList = mk M f) : cs.size = M := by
  have := congrArg List.length h
  rw [Array.length_toList, mk_length] at this; exact this
theorem mk_ext {M : Nat} {f f' : Nat → Bool} (h : ∀ y, y < M → (f y = true ↔ f' y = true)) : mk M f = mk M f' := by
  unfold mk
  refine List.map_congr_left fun y hy => ?_
  rw [Bool.eq_iff_iff.2 (h y (List.mem_range.1 hy))]
/-- on the beams of the first p ports -/
def Beam1 (F : Fd) (q : Nat) (t : St) : Prop := ∃ k, k < lenB F q + 1 ∧ t = F.go (F.enter q) k
def BeamTo (F : Fd) (p : Nat) (t : St) : Prop := ∃ q, q < p ∧ Beam1 F q t
theorem beamTo_zero {F : Fd} {t : St} : ¬ BeamTo F 0 t := fun ⟨_, h, _⟩ => by omega
theorem beamTo_succ {F : Fd} {p : Nat} {t : St} : BeamTo F (p + 1) t ↔ BeamTo F p t ∨ Beam1 F p t := by
  constructor
  · rintro ⟨q, hq, h⟩
    by_cases e : q = p
    · subst e; exact .inr h
    · exact .inl ⟨q, by omega, h⟩
  · rintro (⟨q, hq, h⟩ | h)
    · exact ⟨q, by omega, h⟩
    · exact ⟨p, by omega, h⟩
theorem beamTo_all {g : List ByteArray} (hg : gridB g = true) {t : St} : BeamTo (fld g) (portsN g) t ↔ (fld g).Beamed t := by
  constructor
  · rintro ⟨q, hq, k, hk, rfl⟩
    exact ⟨q, by rw [ports_fld]; exact hq, _, _, k, (ends_B hg hq).1, by omega, rfl⟩
  · rintro ⟨q, hq, N, e, k, h, hk, rfl⟩
    rw [ports_fld] at hq
    obtain ⟨e1, _⟩ := Fd.ends_det (ends_B hg hq).1 h
    exact ⟨q, hq, k, by omega, rfl⟩
theorem beam1_ok {g : List ByteArray} (hg : gridB g = true) {q : Nat} (hq : q < portsN g) {k : Nat} (hk : k < lenB (fld g) q + 1) : (fld g).Ok ((fld g).go ((fld g).enter q) k) :=
  Fd.go_ok (Fd.enter_ok (grid_hn hg) (grid_hm hg) (by rw [ports_fld]; exact hq)) (ends_B hg hq).1.on k (by omega)
theorem code_eq_st {F : Fd} {t : St} (ht : F.Ok t) {y : Nat} : y = F.code t ↔ F.st y = t := by
  constructor
  · rintro rfl; exact Fd.st_code ht
  · intro h
    have hm : 1 ≤ F.m := by have := ht.2.1; omega
    rw [← h, Fd.code_st hm]
theorem infoBool : (Try.prog.info? 4).map (fun i => (i.zero, i.size, i.bytes)) = some (some (.bool false), 1, 1) := by kernel_rfl
theorem cells_fld (g : List ByteArray) : (fld g).n * (fld g).m = cellsN g := rfl
def MarksPost (g : List ByteArray) (w : World) (e : Ending) (w' : World) : Prop :=
  ∃ b cs, e = .returned (.slice (some ⟨b, 0, none⟩) (4 * cellsN g) (4 * cellsN g)) ∧ w'.heap[b]? = some (.cells cs 4 (0, 0)) ∧ cs.toList = mk (4 * cellsN g) (fld g).beamB ∧ w.heap.size ≤ b ∧ Below w.heap.size w w'
set_option maxRecDepth 100000 in
set_option maxHeartbeats 1600000 in
theorem l3Marks_any (A : Option Addr) (c : Nat) (g : List ByteArray) (w : World) (hr : Rd w w.heap.size A (sv g)) (hg : gridB g = true) :
    Calls Try.prog 46 #[.slice A g.length c] w (MarksPost g w) := by
  have HB := Lib.hid (fun k w hr (hk : k < portsN g) => l2Way_any A c g k _ _ w hr hg hk (ends_B hg hk).1 (ends_B hg hk).2)
  have HN := Lib.hid (fun k (hk : k < portsN g) => (ends_B hg hk).2)
  have HOK := Lib.hid (fun q (hq : q < portsN g) k (hk : k < lenB (fld g) q + 1) => beam1_ok hg hq hk)
  have HALL := Lib.hid (fun t => beamTo_all hg (t := t))
  have HR := Lib.hid hr
  have hP := ports_20 hg
  have hM := cells_25 hg
  obtain ⟨gl1, gl2⟩ := grid_len hg
  obtain ⟨gw1, gw2⟩ := grid_width hg
  obtain ⟨b, off, rfl, hbb, _⟩ := hr.at_ (sv_get g 0 (by omega))
  obtain ⟨s0, hc0, hz0⟩ : ∃ s0 : ByteArray, w.cell? ⟨b, off, none⟩ = some (.string s0) ∧ s0.size = width g := ⟨g[0], by have := hr.cell (sv_get g 0 (by omega)); rw [Nat.add_zero] at this; exact this, grid_row hg 0 (by omega)⟩
  have hz5 : s0.size ≤ 5 := by omega
  have hpos : 0 < g.length := by omega
  have HPP := Lib.hid (show 2 * ((g.length : Int) + (s0.size : Int)) = (portsN g : Nat) by unfold portsN; omega)
  have HMM := Lib.hid (show 4 * (g.length : Int) * (s0.size : Int) = ((4 * cellsN g : Nat) : Int) by unfold cellsN; rw [hz0, Int.mul_assoc, Int.natCast_mul, Int.natCast_mul]; rfl)
  have hm4 : 4 * (g.length : Int) * (s0.size : Int) ≤ 100 ∧ 0 ≤ 4 * (g.length : Int) * (s0.size : Int) := by rw [HMM.out]; omega
  obtain ⟨hm41, hm42⟩ := hm4
  have hmk := run_make_row' (P := Try.prog) 49 4 (.bool false) 1 Try.underlying49 infoBool rfl .i64 .i64 (4 * cellsN g) (by omega) (by omega)
  rw [← HMM.out] at hmk
  have HFB := Lib.hid (fun y => Fd.beamB_iff (F := fld g) (x := y))
  have hm1 : 1 ≤ (fld g).m := grid_hm hg
  have HLT := Lib.hid (fun t (ht : (fld g).Ok t) => show (fld g).code t < 4 * cellsN g from Fd.code_lt ht)
  have hQ : 4 * cellsN g ≤ 100 := by omega
  clear hr hg hz0 gw1 gw2
  unfold MarksPost
  generalize portsN g = P at *
  clear hM
  generalize 4 * cellsN g = Q at *
  generalize fld g = F at *
  go_enter Try.func46, Try.ntmps46
  go_wp2
  clear hmk hc0
  have HM0 := Lib.hid (heap_alloc_new w (.cells (madeCells #[Value.bool false] Q) 4))
  rw [HMM.out]
  go_loopw [5] (fun i wr => ∃ (p : Nat) (cs : Array Value) (f : Nat → Bool), p ≤ P ∧ i = .int .i64 p ∧ Hid (wr.heap[w.heap.size]? = some (.cells cs 4 (0, 0))) ∧ Hid (cs.toList = mk Q f) ∧ Hid (∀ y, y < Q → (f y = true ↔ BeamTo F p (F.st y))) ∧
      Hid (Below w.heap.size w wr)) (fun i _ => P - (intOf i).toNat)
  case atStart => exact ⟨0, _, _, Nat.zero_le _, rfl, HM0.out, mk_nil Q, fun y _ => Iff.intro (fun h => absurd h Bool.false_ne_true) (fun h => absurd h beamTo_zero), below_alloc1 w _⟩
  case round =>
    obtain ⟨p, cs, f, hp, rfl, H1, H2, H3, H4⟩ := hrel
    obtain ⟨wo, rfl⟩ : ∃ wo : World, wo = wr := ⟨_, rfl⟩
    have hps := HPP.out
    by_cases hlt : p < P
    · have hlti : (p : Int) < 2 * ((g.length : Int) + (s0.size : Int)) := by omega
      have HBK := Lib.hid (HB.out p wo (HR.out.later H4.out) hlt)
      have hN := HN.out p hlt
      have HOKp := Lib.hid (HOK.out p hlt)
      have HS := Lib.hid (show ∀ t, BeamTo F (p + 1) t ↔ BeamTo F p t ∨ Beam1 F p t from fun t => beamTo_succ)
      have HB1 := Lib.hid (show ∀ t, Beam1 F p t ↔ ∃ k, k < lenB F p + 1 ∧ t = F.go (F.enter p) k from fun t => Iff.rfl)
      have hwl : w.heap.size < wo.heap.size := (Array.getElem?_eq_some_iff.1 H1.out).1
      generalize endB F p = q at *
      generalize lenB F p = N at *
      generalize F.enter p = S0 at *
      clear hps
      go_wp2_with fail
      refine (l2Ports_any g.length s0.size (by omega) hz5 _).mono ?_
      rintro e w' ⟨rfl, rfl⟩
      go_wp2_with fail
      refine HBK.out.mono ?_
      rintro e w1 ⟨A1, c1, A2, c2, rfl, ho1, ho2, hb1⟩
      have HO1 := Lib.hid ho1
      have HO2 := Lib.hid ho2
      have HM1 := Lib.hid ((hb1.block w.heap.size hwl).trans H1.out)
      have HBB1 := Lib.hid (below_next H4.out hb1)
      clear ho1 ho2 hb1 H1 H4 HBK
      go_wp2
      go_loopw [9] (fun i wi => ∃ (j : Nat) (cs : Array Value) (f' : Nat → Bool), j ≤ N + 1 ∧ i = .int .i64 j ∧ Hid (wi.heap[w.heap.size]? = some (.cells cs 4 (0, 0))) ∧ Hid (cs.toList = mk Q f') ∧
          Hid (∀ y, y < Q → (f' y = true ↔ BeamTo F p (F.st y) ∨ ∃ k, k < j ∧ F.st y = F.go S0 k)) ∧ Hid (wi.ownsRow wo.heap.size 3 1 (.slice A1 (N + 1) c1) (N + 1) (iv (wayC F S0 (N + 1)))) ∧
          Hid (wi.ownsRow wo.heap.size 3 1 (.slice A2 (N + 1) c2) (N + 1) (iv (wayD F S0 (N + 1)))) ∧ Hid (Below w.heap.size w wi)) (fun i _ => N + 1 - (intOf i).toNat)
      case atStart => exact ⟨0, cs, f, Nat.zero_le _, rfl, HM1.out, H2.out, fun y hy => by
          rw [H3.out y hy]
          exact ⟨.inl, fun h => h.elim id fun ⟨k, hk, _⟩ => absurd hk (by omega)⟩, HO1.out, HO2.out, HBB1.out⟩
      case round =>
        obtain ⟨j, cs, f', hj, rfl, K1, K2, K3, K4, K5, K6⟩ := hrel
        by_cases hjl : j < N + 1
        · have hok := HOKp.out j hjl
          have hd4 := hok.2.2
          have hcode := HLT.out _ hok
          have HCD := Lib.hid (fun y => code_eq_st hok (y := y))
          have g1 := iv_get (wayC F S0 (N + 1)) j (by rw [wayC_length]; exact hjl)
          have g2 := iv_get (wayD F S0 (N + 1)) j (by rw [wayD_length]; exact hjl)
          rw [show (wayC F S0 (N + 1))[j]'(by rw [wayC_length]; exact hjl) = (F.cellN (F.go S0 j) : Int) by simp [wayC]] at g1
          rw [show (wayD F S0 (N + 1))[j]'(by rw [wayD_length]; exact hjl) = ((F.go S0 j).d : Int) by simp [wayD]] at g2
          obtain ⟨b1, o1, hA1, hb1, x1⟩ := (Rd.of_own K4.out).at_ g1
          subst hA1
          obtain ⟨b2, o2, hA2, hb2, x2⟩ := (Rd.of_own K5.out).at_ g2
          subst hA2
          have hcd : F.code (F.go S0 j) = 4 * F.cellN (F.go S0 j) + (F.go S0 j).d := rfl
          rw [hcd] at hcode HCD
          have HJ := Lib.hid (show ∀ y, (∃ k, k < j + 1 ∧ F.st y = F.go S0 k) ↔ (∃ k, k < j ∧ F.st y = F.go S0 k) ∨ F.st y = F.go S0 j from fun y => ⟨fun ⟨k, hk, e⟩ => by
            by_cases h : k = j
            · subst h; exact .inr e
            · exact .inl ⟨k, by omega, e⟩, fun h => h.elim (fun ⟨k, hk, e⟩ => ⟨k, by omega, e⟩) fun e => ⟨j, by omega, e⟩⟩)
          generalize F.cellN (F.go S0 j) = x at *
          generalize (F.go S0 j).d = d at *
          have hx4 : 4 * x + d < Q := by omega
          obtain ⟨hxs, hcv⟩ := mk_cell K2.out hx4
          have hf2 := row_frozen K1.out (4 * x + d)
          have hc2 := row_cell K1.out (4 * x + d) hxs
          have hsz := mk_size K2.out
          have K2' := Lib.hid (show (cs.setIfInBounds (4 * x + d) (.bool true)).toList = mk Q fun y => f' y || decide (y = 4 * x + d) by
            rw [Array.toList_setIfInBounds, K2.out, mk_set Q f' _ hx4])
          have K3' := Lib.hid (show ∀ y, y < Q → ((f' y || decide (y = 4 * x + d)) = true ↔ BeamTo F p (F.st y) ∨ ∃ k, k < j + 1 ∧ F.st y = F.go S0 k) from fun y hy => by
            rw [Bool.or_eq_true, decide_eq_true_iff, K3.out y hy, HCD.out y, HJ.out y, or_assoc])
          clear g1 g2 hcd hok hcode hcv
          have hw4 : IntKind.i64.wrap ((4 : Int) * (x : Int)) = (4 : Int) * (x : Int) := IntWalk.i64_in _ (by omega)
          have hw5 : IntKind.i64.wrap ((4 : Int) * (x : Int) + (d : Int)) = (4 : Int) * (x : Int) + (d : Int) := IntWalk.i64_in _ (by omega)
          have htn : ((4 : Int) * (x : Int) + (d : Int)).toNat = 4 * x + d := by omega
          have hxI : (4 : Int) * (x : Int) + (d : Int) < (Q : Int) := by omega
          have hxI0 : (0 : Int) ≤ (4 : Int) * (x : Int) + (d : Int) := by omega
          go_wp2_with fail
          go_still_tail 12, (by kernel_rfl)
          change wpList _ _ _ _ _ (World.drew wr)
          go_wp2
          go_roundw
          case rel => exact ⟨j + 1, _, _, by omega, by go_num, row_set K1.out _ _, K2'.out, K3'.out, own_drew' (own_far K4.out (grown_set (World.grownBy.refl _ _) _ _) (fun k hk => by injection hk with hk; omega)), own_drew' (own_far K5.out (grown_set (World.grownBy.refl _ _) _ _) (fun k hk => by injection hk with hk; omega)), (K6.out.setCell (Nat.le_refl _) _).drew⟩
          case measure => simp [intOf]; omega
        · have hjN : j = N + 1 := by omega
          have H3' := Lib.hid (show ∀ y, y < Q → (f' y = true ↔ BeamTo F (p + 1) (F.st y)) from fun y hy => by rw [K3.out y hy, HS.out, HB1.out, hjN])
          clear hjN
          go_wp2
          go_roundw
          case rel => exact ⟨p + 1, cs, f', by omega, by go_num, K1.out, K2.out, H3'.out, K6.out⟩
          case measure => simp [intOf]; omega
    · have hlti : ¬ ((p : Int) < 2 * ((g.length : Int) + (s0.size : Int))) := by omega
      have hpP : p = P := by omega
      have HF := Lib.hid (show mk Q f = mk Q F.beamB from mk_ext fun y hy => by rw [H3.out y hy, hpP, HALL.out, HFB.out])
      clear hps hpP
      go_wp2_with fail
      refine (l2Ports_any g.length s0.size (by omega) hz5 _).mono ?_
      rintro e w' ⟨rfl, rfl⟩
      go_wp2
      go_ret
      exact ⟨w.heap.size, cs, rfl, H1.out, by rw [H2.out, HF.out], Nat.le_refl _, H4.out⟩
theorem marked_zero {F : Fd} {t : St} : F.Marked 0 t ↔ F.Beamed t := ⟨fun h => h.elim id fun ⟨y, hy, _⟩ => absurd hy (by omega), .inl⟩
theorem marked_no {F : Fd} {x : Nat} (h : ¬ F.Lead x) {t : St} : F.Marked (x + 1) t ↔ F.Marked x t := by
  rw [Fd.marked_succ]
  exact ⟨fun h' => h'.elim id fun ⟨h1, _⟩ => absurd h1 h, .inl⟩
theorem same_lt {F : Fd} {s t : St} {K : Nat} (hK : F.Comes s K) : F.Same s t ↔ ∃ k, k < K ∧ (t = F.go s k ∨ t = F.rev (F.go s k)) := by
  constructor
  · rintro ⟨k, h⟩
    refine ⟨k % K, Nat.mod_lt _ hK.pos, ?_⟩
    rw [← Fd.go_mod hK]; exact h
  · rintro ⟨k, _, h⟩; exact ⟨k, h⟩
theorem marked_yes {F : Fd} {x K : Nat} (hl : F.Lead x) (hK : F.Comes (F.st x) K) {t : St} : F.Marked (x + 1) t ↔ F.Marked x t ∨ ∃ k, k < K ∧ (t = F.go (F.st x) k ∨ t = F.rev (F.go (F.st x) k)) := by
  rw [Fd.marked_succ, same_lt hK]
  exact ⟨fun h => h.elim .inl fun h => .inr h.2, fun h => h.elim .inl fun h => .inr ⟨hl, h⟩⟩
theorem ex_lt_succ {j : Nat} {Q : Nat → Prop} : (∃ k, k < j + 1 ∧ Q k) ↔ (∃ k, k < j ∧ Q k) ∨ Q j := ⟨fun ⟨k, hk, e⟩ => by
  by_cases h : k = j
  · subst h; exact .inr e
  · exact .inl ⟨k, by omega, e⟩, fun h => h.elim (fun ⟨k, hk, e⟩ => ⟨k, by omega, e⟩) fun e => ⟨j, by omega, e⟩⟩
/-- the lengths of the rounds below x -/
noncomputable def lensTo (F : Fd) (x : Nat) : List Nat := (leadsTo F x).map fun y => F.per (F.st y)
theorem lensTo_yes {F : Fd} {x : Nat} (h : F.Lead x) : lensTo F (x + 1) = lensTo F x ++ [F.per (F.st x)] := by unfold lensTo; rw [leadsTo_yes h, List.map_append]; rfl
theorem lensTo_no {F : Fd} {x : Nat} (h : ¬ F.Lead x) : lensTo F (x + 1) = lensTo F x := by unfold lensTo; rw [leadsTo_no h]
theorem lensTo_length (F : Fd) (x : Nat) : (lensTo F x).length ≤ x := by unfold lensTo; rw [List.length_map]; exact leadsTo_le F x
theorem lensTo_all (F : Fd) : lensTo F (4 * (F.n * F.m)) = F.lens := rfl
theorem xor_two (o : Nat) (h : o < 4) : bits BinOp.xor IntKind.i64 (o : Int) 2 = (((o + 2) % 4 : Nat) : Int) := by
  rcases (show o = 0 ∨ o = 1 ∨ o = 2 ∨ o = 3 by omega) with rfl | rfl | rfl | rfl <;> decide
/-- numbers come back -/
def FreshN (l : List Int) (w : World) (e : Ending) (w' : World) : Prop :=
  ∃ A c, e = .returned (.slice A l.length c) ∧ w'.ownsRow w.heap.size 3 1 (.slice A l.length c) l.length (iv l) ∧ Below w.heap.size w w'
set_option maxRecDepth 100000 in
set_option maxHeartbeats 3200000 in
theorem l3Rounds_any (A : Option Addr) (c : Nat) (g : List ByteArray) (w : World) (hr : Rd w w.heap.size A (sv g)) (hg : gridB g = true) :
    Calls Try.prog 40 #[.slice A g.length c] w (FreshN (ni (fld g).lens) w) := by
  obtain ⟨j0, hji, hy0, hy1, hy2⟩ := info_parts infoInt
  have hM := cells_25 hg
  have hm1 : 1 ≤ (fld g).m := grid_hm hg
  have hn1 : 1 ≤ (fld g).n := grid_hn hg
  have hC := fun (x : Nat) (hx : x < 4 * cellsN g) (K : Nat) (hK : (fld g).Comes ((fld g).st x) K) (w : World) (hr : Rd w w.heap.size A (sv g)) =>
    l3Close_any A c g ((fld g).st x) K true w hr hg (Fd.st_ok hm1 hx) (gone_comes hK) (by have := Fd.comes_len (Fd.st_ok hm1 (show x < 4 * ((fld g).n * (fld g).m) from hx)) hK; rw [cells_fld] at this; omega)
  have hcl := fun (t : St) (ht : (fld g).Ok t) (w : World) (B : Nat) (hr : Rd w B A (sv g)) => l2Cell_any A c g ((fld g).cellN t) w B hr hg (by have := Fd.cellN_lt ht; rw [cells_fld] at this; exact this)
  have HML := Lib.hid (fun x (hx : x < 4 * cellsN g) => Fd.marked_lead (F := fld g) hn1 hm1 (x := x) hx)
  have HST := Lib.hid (fun x (hx : x < 4 * cellsN g) => Fd.st_ok (F := fld g) hm1 (x := x) hx)
  have HCS := Lib.hid (fun x => Fd.code_st (F := fld g) hm1 x)
  have HALL := Lib.hid (show lensTo (fld g) (4 * cellsN g) = (fld g).lens from lensTo_all _)
  have HMK := Lib.hid (l3Marks_any A c g _ ((hr.later (below_alloc1 w (.cells #[] 3)))) hg)
  have HLT := Lib.hid (fun t (ht : (fld g).Ok t) => show (fld g).code t < 4 * cellsN g from Fd.code_lt ht)
  have HLEN := Lib.hid (fun s (hs : (fld g).Ok s) K (hK : (fld g).Comes s K) => show K ≤ 4 * cellsN g from Fd.comes_len hs hK)
  have HFB := Lib.hid (fun y => Fd.beamB_iff (F := fld g) (x := y))
  have HCL := Lib.hid hcl
  have HC := Lib.hid hC
  have HR := Lib.hid hr
  have HO0 := Lib.hid (own_empty w 3)
  have HB0 := Lib.hid (below_alloc1 w (.cells #[] 3))
  have hQ : 4 * cellsN g ≤ 100 := by omega
  clear hr hg hC hcl hm1 hn1 hM
  unfold MarksPost at HMK
  generalize 4 * cellsN g = Q at *
  generalize fld g = F at *
  go_enter Try.func40, Try.ntmps40
  go_wp2_with fail
  refine HMK.out.mono ?_
  rintro e w1 ⟨b, cs0, rfl, hm0, hm1, hb0, hb1⟩
  have HM0 := Lib.hid hm0
  have HM1 := Lib.hid hm1
  have HO1 := Lib.hid (own_keep HO0.out hb1)
  have HB1 := Lib.hid (below_next HB0.out hb1)
  rw [World.size_alloc] at hb0
  clear hm0 hm1 hb1 HMK HO0 HB0
  go_wp2
  go_loopw [3, 5] (fun v i wr => ∃ (x : Nat) (cs : Array Value) (f : Nat → Bool), x ≤ Q ∧ i = .int .i64 x ∧ Hid (wr.heap[b]? = some (.cells cs 4 (0, 0))) ∧ Hid (cs.toList = mk Q f) ∧ Hid (∀ y, y < Q → (f y = true ↔ F.Marked x (F.st y))) ∧
      Hid (wr.ownsRow w.heap.size 3 1 v (lensTo F x).length (iv (ni (lensTo F x)))) ∧ Hid (v.ownBlock ≠ some b) ∧ Hid (Below w.heap.size w wr)) (fun _ i _ => Q - (intOf i).toNat)
  case atStart => exact ⟨0, cs0, F.beamB, Nat.zero_le _, rfl, HM0.out, HM1.out, fun y _ => by rw [HFB.out, marked_zero], HO1.out, by simp [Hid, Value.ownBlock]; omega, HB1.out⟩
  case round =>
    obtain ⟨x, cs, f, hx, rfl, H1, H2, H3, H4, H5, H6⟩ := hrel
    obtain ⟨wo, rfl⟩ : ∃ wo : World, wo = wr := ⟨_, rfl⟩
    have hwz : w.heap.size ≤ wo.heap.size := H6.out.size
    have hbl : b < wo.heap.size := (Array.getElem?_eq_some_iff.1 H1.out).1
    by_cases hlt : x < Q
    · obtain ⟨hxs, hcv⟩ := mk_cell H2.out hlt
      have hc2 := row_cell H1.out x hxs
      rw [hcv] at hc2
      have hfl := (HML.out x hlt)
      have hf3 := H3.out x hlt
      cases hfx : f x
      · have hlead : F.Lead x := hfl.2 (fun h => by rw [← hf3, hfx] at h; cases h)
        rw [hfx] at hc2
        obtain ⟨K, hK⟩ := hlead.1
        have hok := HST.out x hlt
        have hKQ := HLEN.out _ hok K hK
        have HYES := Lib.hid (show ∀ t, F.Marked (x + 1) t ↔ F.Marked x t ∨ ∃ k, k < K ∧ (t = F.go (F.st x) k ∨ t = F.rev (F.go (F.st x) k)) from fun t => marked_yes hlead hK)
        have hper : F.per (F.st x) = K := Fd.per_eq hK
        have HLS := Lib.hid (show lensTo F (x + 1) = lensTo F x ++ [K] by rw [lensTo_yes hlead, hper])
        have hLL := lensTo_length F x
        have HGO := Lib.hid (fun j => Fd.comes_ok hok hK j)
        have hCx := HC.out x hlt K hK wo (HR.out.later H6.out)
        have hcodex : 4 * F.cellN (F.st x) + (F.st x).d = x := HCS.out x
        have hdx : (F.st x).d < 4 := hok.2.2
        have e1 : ((F.cellN (F.st x) : Nat) : Int) = (x : Int) / 4 := by omega
        have e2 : (((F.st x).d : Nat) : Int) = (x : Int) % 4 := by omega
        rw [e1, e2] at hCx
        have HCx := Lib.hid hCx
        clear hCx e1 e2 hfl hf3 hfx hcv hlead hper hcodex hdx hK hok
        generalize F.st x = S0 at *
        go_wp2_with fail
        refine HCx.out.mono ?_
        rintro e w2 ⟨A1, c1, A2, c2, rfl, ho1, ho2, hb2⟩
        have HO1 := Lib.hid ho1
        have HO2 := Lib.hid ho2
        have HM2 := Lib.hid ((hb2.block b hbl).trans H1.out)
        have HOV := Lib.hid (own_keep H4.out hb2)
        have HBB := Lib.hid (below_next H6.out hb2)
        clear ho1 ho2 hb2 H1 H4 H6 HCx hc2
        go_wp2
        go_loopw [9] (fun i wr => ∃ (j : Nat) (cs : Array Value) (f' : Nat → Bool), j ≤ K ∧ i = .int .i64 j ∧ Hid (wr.heap[b]? = some (.cells cs 4 (0, 0))) ∧ Hid (cs.toList = mk Q f') ∧
            Hid (∀ y, y < Q → (f' y = true ↔ F.Marked x (F.st y) ∨ ∃ k, k < j ∧ (F.st y = F.go S0 k ∨ F.st y = F.rev (F.go S0 k)))) ∧ Hid (wr.ownsRow wo.heap.size 3 1 (.slice A1 K c1) K (iv (wayC F S0 K))) ∧
            Hid (wr.ownsRow wo.heap.size 3 1 (.slice A2 K c2) K (iv (wayD F S0 K))) ∧ Hid (w2.grownBy wr (some b)) ∧ Hid (Below w.heap.size w wr)) (fun i _ => K - (intOf i).toNat)
        case atStart => exact ⟨0, cs, f, Nat.zero_le _, rfl, HM2.out, H2.out, fun y hy => by
            rw [H3.out y hy]
            exact ⟨.inl, fun h => h.elim id fun ⟨k, hk, _⟩ => absurd hk (by omega)⟩, HO1.out, HO2.out, World.grownBy.refl _ _, HBB.out⟩
        case round =>
          obtain ⟨j, cs, f', hj, rfl, K1, K2, K3, K4, K5, K6, K7⟩ := hrel
          by_cases hjl : j < K
          · have hok := HGO.out j
            have hd4 : (F.go S0 j).d < 4 := hok.2.2
            have ho4 := Fd.out_lt hok
            have hcode : 4 * F.cellN (F.go S0 j) + (F.go S0 j).d < Q := HLT.out _ hok
            have hcodeR : 4 * F.cellN (F.go S0 j) + (F.out (F.go S0 j) + 2) % 4 < Q := HLT.out _ (Fd.rev_ok hok)
            have HCD := Lib.hid (show ∀ y, y = 4 * F.cellN (F.go S0 j) + (F.go S0 j).d ↔ F.st y = F.go S0 j from fun y => code_eq_st hok)
            have HCDR := Lib.hid (show ∀ y, y = 4 * F.cellN (F.go S0 j) + (F.out (F.go S0 j) + 2) % 4 ↔ F.st y = F.rev (F.go S0 j) from fun y => code_eq_st (Fd.rev_ok hok))
            have HAT := Lib.hid (Fd.at_cell hok)
            have HOU := Lib.hid (show turnD (F.L (F.go S0 j).r (F.go S0 j).c) (F.go S0 j).d = F.out (F.go S0 j) from rfl)
            have hcl := fun (w : World) (B : Nat) (hr : Rd w B A (sv g)) => HCL.out _ hok w B hr
            rw [HAT.out] at hcl
            have HCLJ := Lib.hid hcl
            have HBJ := Lib.hid (fun w => l2Bend_any (F.L (F.go S0 j).r (F.go S0 j).c) (F.go S0 j).d hd4 w)
            rw [HOU.out] at HBJ
            have g1 := iv_get (wayC F S0 K) j (by rw [wayC_length]; exact hjl)
            have g2 := iv_get (wayD F S0 K) j (by rw [wayD_length]; exact hjl)
            rw [show (wayC F S0 K)[j]'(by rw [wayC_length]; exact hjl) = (F.cellN (F.go S0 j) : Int) by simp [wayC]] at g1
            rw [show (wayD F S0 K)[j]'(by rw [wayD_length]; exact hjl) = ((F.go S0 j).d : Int) by simp [wayD]] at g2
            obtain ⟨b1, o1, hA1, hb1, x1⟩ := (Rd.of_own K4.out).at_ g1
            subst hA1
            obtain ⟨b2, o2, hA2, hb2, x2⟩ := (Rd.of_own K5.out).at_ g2
            subst hA2
            have HJ := Lib.hid (show ∀ y, (∃ k, k < j + 1 ∧ (F.st y = F.go S0 k ∨ F.st y = F.rev (F.go S0 k))) ↔ (∃ k, k < j ∧ (F.st y = F.go S0 k ∨ F.st y = F.rev (F.go S0 k))) ∨ (F.st y = F.go S0 j ∨ F.st y = F.rev (F.go S0 j)) from fun y => ex_lt_succ)
            clear hcl hok HAT HOU
            generalize F.cellN (F.go S0 j) = z at *
            generalize (F.go S0 j).d = d at *
            generalize F.L (F.go S0 j).r (F.go S0 j).c = lt at *
            generalize F.out (F.go S0 j) = o at *
            obtain ⟨ee, hee⟩ : ∃ ee, (o + 2) % 4 = ee := ⟨_, rfl⟩
            rw [hee] at hcodeR HCDR
            obtain ⟨hxs1, hcv⟩ := mk_cell K2.out hcode
            have hf2 := row_frozen K1.out (4 * z + d)
            have hc2 := row_cell K1.out (4 * z + d) hxs1
            have K2' := Lib.hid (show (cs.setIfInBounds (4 * z + d) (.bool true)).toList = mk Q fun y => f' y || decide (y = 4 * z + d) by
              rw [Array.toList_setIfInBounds, K2.out, mk_set Q f' _ hcode])
            have K1' := Lib.hid (row_set K1.out (4 * z + d) (.bool true))
            have K4' := Lib.hid (own_drew' (own_far K4.out (grown_set (World.grownBy.refl wr (some b)) (4 * z + d) (.bool true)) (fun k hk => by injection hk with hk; omega)))
            have K5' := Lib.hid (own_drew' (own_far K5.out (grown_set (World.grownBy.refl wr (some b)) (4 * z + d) (.bool true)) (fun k hk => by injection hk with hk; omega)))
            have K6' := Lib.hid (grown_drew (grown_set K6.out (4 * z + d) (.bool true)))
            have hwb : w.heap.size ≤ b := by omega
            have K7' := Lib.hid (show Below w.heap.size w (World.drew (wr.setCell (⟨b, 4 * z + d, none⟩ : Addr) (.bool true))) from (K7.out.setCell hwb _).drew)
            have hw4 : IntKind.i64.wrap ((4 : Int) * (z : Int)) = (4 : Int) * (z : Int) := IntWalk.i64_in _ (by omega)
            have hw5 : IntKind.i64.wrap ((4 : Int) * (z : Int) + (d : Int)) = (4 : Int) * (z : Int) + (d : Int) := IntWalk.i64_in _ (by omega)
            have htn : ((4 : Int) * (z : Int) + (d : Int)).toNat = 4 * z + d := by omega
            have hxI : (4 : Int) * (z : Int) + (d : Int) < (Q : Int) := by omega
            have hxI0 : (0 : Int) ≤ (4 : Int) * (z : Int) + (d : Int) := by omega
            clear hcv
            go_wp2_with fail
            go_still_tail 12, (by kernel_rfl)
            change wpList _ _ _ _ _ (World.drew wr)
            go_wp2_with fail
            clear hf2 hc2 hw4 hw5 htn hxI hxI0
            obtain ⟨w5, hw5⟩ : ∃ w5 : World, w5 = (World.drew (wr.setCell (⟨b, 4 * z + d, none⟩ : Addr) (.bool true))) := ⟨_, rfl⟩
            rw [← hw5] at K4' K5' K6' K7' ⊢
            have K1w := Lib.hid (show w5.heap[b]? = some (.cells (cs.setIfInBounds (4 * z + d) (.bool true)) 4 (0, 0)) by rw [hw5]; exact K1'.out)
            have K4w := K4'
            have K5w := K5'
            have K6w := K6'
            have K7w := K7'
            have HRw := Lib.hid (HR.out.later K7w.out)
            have y1 := (Rd.of_own K4w.out).cell g1
            have y2 := (Rd.of_own K5w.out).cell g2
            obtain ⟨hxs5, hcv5⟩ := mk_cell K2'.out hcodeR
            have K2'' := Lib.hid (show ((cs.setIfInBounds (4 * z + d) (.bool true)).setIfInBounds (4 * z + ee) (.bool true)).toList = mk Q fun y => (f' y || decide (y = 4 * z + d)) || decide (y = 4 * z + ee) by
              rw [Array.toList_setIfInBounds, K2'.out, mk_set Q _ _ hcodeR])
            have K3'' := Lib.hid (show ∀ y, y < Q → (((f' y || decide (y = 4 * z + d)) || decide (y = 4 * z + ee)) = true ↔ F.Marked x (F.st y) ∨ ∃ k, k < j + 1 ∧ (F.st y = F.go S0 k ∨ F.st y = F.rev (F.go S0 k))) from fun y hy => by
              rw [Bool.or_eq_true, Bool.or_eq_true, decide_eq_true_iff, decide_eq_true_iff, K3.out y hy, HCD.out y, HCDR.out y, HJ.out y, or_assoc, or_assoc])
            clear hw5 K4' K5' K6' K7' K1' x1 x2 hcv5 K1 K2 K3 K4 K5 K6 K7 K2' HCD HCDR HJ hxs1 hcode
            have hzQ : 4 * z + ee < Q := hcodeR
            have hxor : bits BinOp.xor IntKind.i64 (o : Int) 2 = (ee : Int) := by rw [← hee]; exact xor_two o ho4
            have htn6 : ((4 : Int) * (z : Int) + (ee : Int)).toNat = 4 * z + ee := by omega
            have hxI6 : (4 : Int) * (z : Int) + (ee : Int) < (Q : Int) := by omega
            have hxI7 : (0 : Int) ≤ (4 : Int) * (z : Int) + (ee : Int) := by omega
            clear hee ho4
            go_quiet (first | (go_at_call 67; refine qdr (HCLJ.out _ _ (HRw.out.below (below_drewN _ _ _)))) | (go_at_call 66; refine qsame (HBJ.out _)))
            have K1x := Lib.hid (show (w5.drewN nq).heap[b]? = some (.cells (cs.setIfInBounds (4 * z + d) (.bool true)) 4 (0, 0)) from K1w.out)
            have K4x := Lib.hid (own_keep K4w.out (below_drewN _ nq _))
            have K5x := Lib.hid (own_keep K5w.out (below_drewN _ nq _))
            have K6x := Lib.hid (grown_below K6w.out (below_drewN _ nq _))
            have K7x := Lib.hid (K7w.out.trans (below_drewN _ nq _))
            clear K1w K4w K5w K6w K7w HRw y1 y2 HCLJ HBJ
            generalize w5.drewN nq = w6 at *
            have y1 := (Rd.of_own K4x.out).cell g1
            have hf6 := row_frozen K1x.out (4 * z + ee)
            have hc6 := row_cell K1x.out (4 * z + ee) hxs5
            go_wp2
            go_roundw
            case rel => exact ⟨j + 1, _, _, by omega, by go_num, row_set K1x.out _ _, K2''.out, K3''.out, own_far K4x.out (grown_set (World.grownBy.refl _ _) _ _) (fun k hk => by injection hk with hk; omega), own_far K5x.out (grown_set (World.grownBy.refl _ _) _ _) (fun k hk => by injection hk with hk; omega), grown_set K6x.out _ _, K7x.out.setCell hwb _⟩
            case measure => simp [intOf]; omega
          · have hjK : j = K := by omega
            have HML2 := Lib.hid (show ∀ y, y < Q → (f' y = true ↔ F.Marked (x + 1) (F.st y)) from fun y hy => by rw [K3.out y hy, HYES.out, hjK])
            have hk1 : (lensTo F x).length + 1 ≤ maxLen := by simp only [maxLen]; omega
            have hk2 : ((lensTo F x).length + 1) * 8 ≤ 140737488355328 := by omega
            have hwz3 : w.heap.size ≤ wr.heap.size := K7.out.size
            have HLL := Lib.hid (show (lensTo F (x + 1)).length = (lensTo F x).length + 1 by rw [HLS.out, List.length_append]; rfl)
            have HIV := Lib.hid (show iv (ni (lensTo F (x + 1))) = iv (ni (lensTo F x)) ++ [.int .i64 (K : Nat)] by rw [HLS.out]; simp [iv, ni])
            have hbl3 : b < wr.heap.size := (Array.getElem?_eq_some_iff.1 K1.out).1
            clear hjK
            have HVR := Lib.hid (own_other HOV.out K6.out H5.out)
            go_wp2_with (at_builtin; refine wpList_append_own_at _ rfl _ _ 35 rfl w.heap.size 3 j0 (.int .i64 0) 1 8 Try.underlying35 hji hy0 hy1 hy2 rfl (by decide) _ _ _ rfl (HVR.out.alloc _) ⟨wr.heap.size, 0, none⟩ 1 1 [_] rfl rfl (cell_one_new _ _ _) (int_one _ _) hk1 hk2 (alloc_le hwz3 _) ?_)
            intro v' w6 hown hgrow _ hat
            have HV6 := Lib.hid (show w6.ownsRow w.heap.size 3 1 v' (lensTo F (x + 1)).length (iv (ni (lensTo F (x + 1)))) by rw [HLL.out, HIV.out]; exact hown)
            have HN6 := Lib.hid (own_new_ne H5.out (Nat.lt_succ_of_lt hbl3) hat)
            have HM6 := Lib.hid ((hgrow.block b (by simp; omega) (fun e => H5.out e.symm)).trans ((Below.heap_alloc wr _ b hbl3).trans K1.out))
            have HB6 := Lib.hid (below_grown (K7.out.alloc hwz3 (.cells #[.int .i64 (K : Int)] 3)) hgrow (fun g hg => own_ge HVR.out g hg))
            clear hown hgrow hat HVR K6 K7
            go_wp2
            go_roundw
            case rel => exact ⟨x + 1, cs, f', by omega, by go_num, HM6.out, K2.out, HML2.out, HV6.out, HN6.out, HB6.out⟩
            case measure => simp [intOf]; omega
      · have hnl : ¬ F.Lead x := fun h => hfl.1 h (hf3.1 hfx)
        rw [hfx] at hc2
        have HNO := Lib.hid (show ∀ t, F.Marked (x + 1) t ↔ F.Marked x t from fun t => marked_no hnl)
        have HLS := Lib.hid (lensTo_no hnl)
        clear hfl hf3 hfx hcv hnl
        go_wp2
        go_roundw
        case rel => exact ⟨x + 1, cs, f, by omega, by go_num, H1.out, H2.out, fun y hy => by rw [H3.out y hy, HNO.out], by rw [HLS.out]; exact H4.out, H5.out, H6.out⟩
        case measure => simp [intOf]; omega
    · have hxM : x = Q := by omega
      have HF := Lib.hid (show lensTo F x = F.lens by rw [hxM, HALL.out])
      obtain ⟨A', c', rfl, _, _⟩ := own_form H4.out
      clear hxM
      go_wp2
      go_ret
      exact ⟨A', c', by rw [ni_length, ← HF.out]; rfl, by rw [ni_length, ← HF.out]; exact H4.out, H6.out⟩
end Go.Proofs.Ytmbjogjdcghacaa
