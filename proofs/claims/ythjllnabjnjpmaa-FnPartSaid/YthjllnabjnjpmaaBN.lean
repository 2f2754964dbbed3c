/-
  CONTRACTS: l3Marks, l3Rounds of the reference.
-/
import Derived.Test.YthjllnabjnjpmaaBL
import Derived.Test.YthjllnabjnjpmaaPH
namespace Go.Proofs.Ythjllnabjnjpmaa
set_option maxRecDepth 100000
open Go.RowKit

theorem grown_drew {w a : World} {row : Option Nat} (h : w.grownBy a row) : w.grownBy a.drew row := ⟨h.os, h.tape, h.output, h.size, h.block⟩
theorem own_drew' {w : World} {base e size n : Nat} {v : Value} {xs : List Value} (h : w.ownsRow base e size v n xs) : w.drew.ownsRow base e size v n xs := h
/-- a row of marks -/
def mk (M : Nat) (f : Nat → Bool) : List Value := (List.range M).map fun y => .bool (f y)
theorem mk_length (M : Nat) (f : Nat → Bool) : (mk M f).length = M := by simp [mk]
theorem mk_get (M : Nat) (f : Nat → Bool) (x : Nat) (hx : x < M) : (mk M f)[x]? = some (.bool (f x)) := by simp [mk, hx]
theorem mk_set (M : Nat) (f : Nat → Bool) (x : Nat) (_hx : x < M) : (mk M f).set x (.bool true) = mk M fun y => f y || decide (y = x) := by
  refine List.ext_getElem (by simp [mk]) fun k h1 h2 => ?_
  rw [List.getElem_set]
  simp only [mk, List.getElem_map, List.getElem_range]
  by_cases h : x = k
  · subst h; simp
  · have h' : ¬ k = x := fun e => h e.symm
    rw [if_neg h]; simp [h']
theorem mk_nil (M : Nat) : (madeCells #[Value.bool false] M).toList = mk M fun _ => false := by
  refine List.ext_getElem (by simp [madeCells, mk]) fun k h1 h2 => ?_
  simp [madeCells, mk, Nat.mod_one]
theorem mk_cell {M : Nat} {f : Nat → Bool} {cs : Array Value} (h : cs.toList = mk M f) {x : Nat} (hx : x < M) : ∃ hxs : x < cs.size, cs[x] = .bool (f x) := by
  have hsz : cs.size = M := by
    have := congrArg List.length h
    rw [Array.length_toList, mk_length] at this; exact this
  refine ⟨by omega, ?_⟩
  have h1 : cs.toList[x]? = some (cs[x]'(by omega)) := by rw [Array.getElem?_toList, Array.getElem?_eq_getElem]
  rw [h, mk_get M f x hx] at h1
  injection h1 with h1
  exact h1.symm
theorem mk_size {M : Nat} {f : Nat → Bool} {cs : Array Value} (h : cs.toList = mk M f) : cs.size = M := by
  have := congrArg List.length h
  rw [Array.length_toList, mk_length] at this; exact this
theorem mk_ext {M : Nat} {f f' : Nat → Bool} (h : ∀ y, y < M → (f y = true ↔ f' y = true)) : mk M f = mk M f' := by
  unfold mk
  refine List.map_congr_left fun y hy => ?_
  rw [Bool.eq_iff_iff.2 (h y (List.mem_range.1 hy))]
/-- on the beams of the first p ports -/
def Beam1 (F : Fd) (q : Nat) (t : St) : Prop := ∃ k, k < lenB F q + 1 ∧ t = F.go (F.enter q) k
def BeamTo (F : Fd) (p : Nat) (t : St) : Prop := ∃ q, q < p ∧ Beam1 F q t
theorem beamTo_zero {F : Fd} {t : St} : ¬ BeamTo F 0 t := fun ⟨_, h, _⟩ => by omega
theorem beamTo_succ {F : Fd} {p : Nat} {t : St} : BeamTo F (p + 1) t ↔ BeamTo F p t ∨ Beam1 F p t := by
  constructor
  · rintro ⟨q, hq, h⟩
    by_cases e : q = p
    · subst e; exact .inr h
    · exact .inl ⟨q, by omega, h⟩
  · rintro (⟨q, hq, h⟩ | h)
    · exact ⟨q, by omega, h⟩
    · exact ⟨p, by omega, h⟩
theorem beamTo_all {g : List ByteArray} (hg : gridB g = true) {t : St} : BeamTo (fld g) (portsN g) t ↔ (fld g).Beamed t := by
  constructor
  · rintro ⟨q, hq, k, hk, rfl⟩
    exact ⟨q, by rw [ports_fld]; exact hq, _, _, k, (ends_B hg hq).1, by omega, rfl⟩
  · rintro ⟨q, hq, N, e, k, h, hk, rfl⟩
    rw [ports_fld] at hq
    obtain ⟨e1, _⟩ := Fd.ends_det (ends_B hg hq).1 h
    exact ⟨q, hq, k, by omega, rfl⟩
theorem beam1_ok {g : List ByteArray} (hg : gridB g = true) {q : Nat} (hq : q < portsN g) {k : Nat} (hk : k < lenB (fld g) q + 1) : (fld g).Ok ((fld g).go ((fld g).enter q) k) :=
  Fd.go_ok (Fd.enter_ok (grid_hn hg) (grid_hm hg) (by rw [ports_fld]; exact hq)) (ends_B hg hq).1.on k (by omega)
theorem code_eq_st {F : Fd} {t : St} (ht : F.Ok t) {y : Nat} : y = F.code t ↔ F.st y = t := by
  constructor
  · rintro rfl; exact Fd.st_code ht
  · intro h
    have hm : 1 ≤ F.m := by have := ht.2.1; omega
    rw [← h, Fd.code_st hm]
theorem infoBool : (Try.prog.info? 4).map (fun i => (i.zero, i.size, i.bytes)) = some (some (.bool false), 1, 1) := by kernel_rfl
theorem cells_fld (g : List ByteArray) : (fld g).n * (fld g).m = cellsN g := rfl
def MarksPost (g : List ByteArray) (w : World) (e : Ending) (w' : World) : Prop :=
  ∃ b cs, e = .returned (.slice (some ⟨b, 0, none⟩) (4 * cellsN g) (4 * cellsN g)) ∧ w'.heap[b]? = some (.cells cs 4 (0, 0)) ∧ cs.toList = mk (4 * cellsN g) (fld g).beamB ∧ w.heap.size ≤ b ∧ Below w.heap.size w w'
set_option maxRecDepth 100000 in
set_option maxHeartbeats 1600000 in
theorem l3Marks_any (A : Option Addr) (c : Nat) (g : List ByteArray) (w : World) (hr : Rd w w.heap.size A (sv g)) (hg : gridB g = true) :
    Calls Try.prog 52 #[.slice A g.length c] w (MarksPost g w) := by
  have HB := Lib.hid (fun k w hr (hk : k < portsN g) => l2Way_any A c g k _ _ w hr hg hk (ends_B hg hk).1 (ends_B hg hk).2)
  have HN := Lib.hid (fun k (hk : k < portsN g) => (ends_B hg hk).2)
  have HOK := Lib.hid (fun q (hq : q < portsN g) k (hk : k < lenB (fld g) q + 1) => beam1_ok hg hq hk)
  have HALL := Lib.hid (fun t => beamTo_all hg (t := t))
  have HR := Lib.hid hr
  have hP := ports_20 hg
  have hM := cells_25 hg
  obtain ⟨gl1, gl2⟩ := grid_len hg
  obtain ⟨gw1, gw2⟩ := grid_width hg
  obtain ⟨b, off, rfl, hbb, _⟩ := hr.at_ (sv_get g 0 (by omega))
  obtain ⟨s0, hc0, hz0⟩ : ∃ s0 : ByteArray, w.cell? ⟨b, off, none⟩ = some (.string s0) ∧ s0.size = width g := ⟨g[0], by have := hr.cell (sv_get g 0 (by omega)); rw [Nat.add_zero] at this; exact this, grid_row hg 0 (by omega)⟩
  have hz5 : s0.size ≤ 5 := by omega
  have hpos : 0 < g.length := by omega
  have HPP := Lib.hid (show 2 * ((g.length : Int) + (s0.size : Int)) = (portsN g : Nat) by unfold portsN; omega)
  have HMM := Lib.hid (show 4 * (g.length : Int) * (s0.size : Int) = ((4 * cellsN g : Nat) : Int) by unfold cellsN; rw [hz0, Int.mul_assoc, Int.natCast_mul, Int.natCast_mul]; rfl)
  have hm4 : 4 * (g.length : Int) * (s0.size : Int) ≤ 100 ∧ 0 ≤ 4 * (g.length : Int) * (s0.size : Int) := by rw [HMM.out]; omega
  obtain ⟨hm41, hm42⟩ := hm4
  have hmk := run_make_row' (P := Try.prog) 73 4 (.bool false) 1 Try.underlying73 infoBool rfl .i64 .i64 (4 * cellsN g) (by omega) (by omega)
  rw [← HMM.out] at hmk
  have HFB := Lib.hid (fun y => Fd.beamB_iff (F := fld g) (x := y))
  have hm1 : 1 ≤ (fld g).m := grid_hm hg
  have HLT := Lib.hid (fun t (ht : (fld g).Ok t) => show (fld g).code t < 4 * cellsN g from Fd.code_lt ht)
  have hQ : 4 * cellsN g ≤ 100 := by omega
  clear hr hg hz0 gw1 gw2
  unfold MarksPost
  generalize portsN g = P at *
  clear hM
  generalize 4 * cellsN g = Q at *
  generalize fld g = F at *
  go_enter Try.func52, Try.ntmps52
  go_wp2
  clear hmk hc0
  have HM0 := Lib.hid (heap_alloc_new w (.cells (madeCells #[Value.bool false] Q) 4))
  rw [HMM.out]
  go_loopw [5] (fun i wr => ∃ (p : Nat) (cs : Array Value) (f : Nat → Bool), p ≤ P ∧ i = .int .i64 p ∧ Hid (wr.heap[w.heap.size]? = some (.cells cs 4 (0, 0))) ∧ Hid (cs.toList = mk Q f) ∧ Hid (∀ y, y < Q → (f y = true ↔ BeamTo F p (F.st y))) ∧
      Hid (Below w.heap.size w wr)) (fun i _ => P - (intOf i).toNat)
  case atStart => exact ⟨0, _, _, Nat.zero_le _, rfl, HM0.out, mk_nil Q, fun y _ => Iff.intro (fun h => absurd h Bool.false_ne_true) (fun h => absurd h beamTo_zero), below_alloc1 w _⟩
  case round =>
    obtain ⟨p, cs, f, hp, rfl, H1, H2, H3, H4⟩ := hrel
    obtain ⟨wo, rfl⟩ : ∃ wo : World, wo = wr := ⟨_, rfl⟩
    have hps := HPP.out
    by_cases hlt : p < P
    · have hlti : (p : Int) < 2 * ((g.length : Int) + (s0.size : Int)) := by omega
      have HBK := Lib.hid (HB.out p wo (HR.out.later H4.out) hlt)
      have hN := HN.out p hlt
      have HOKp := Lib.hid (HOK.out p hlt)
      have HS := Lib.hid (show ∀ t, BeamTo F (p + 1) t ↔ BeamTo F p t ∨ Beam1 F p t from fun t => beamTo_succ)
      have HB1 := Lib.hid (show ∀ t, Beam1 F p t ↔ ∃ k, k < lenB F p + 1 ∧ t = F.go (F.enter p) k from fun t => Iff.rfl)
      have hwl : w.heap.size < wo.heap.size := (Array.getElem?_eq_some_iff.1 H1.out).1
      generalize endB F p = q at *
      generalize lenB F p = N at *
      generalize F.enter p = S0 at *
      clear hps
      go_wp2_with fail
      refine (l2Ports_any g.length s0.size (by omega) hz5 _).mono ?_
      rintro e w' ⟨rfl, rfl⟩
      go_wp2_with fail
      refine HBK.out.mono ?_
      rintro e w1 ⟨A1, c1, A2, c2, rfl, ho1, ho2, hb1⟩
      have HO1 := Lib.hid ho1
      have HO2 := Lib.hid ho2
      have HM1 := Lib.hid ((hb1.block w.heap.size hwl).trans H1.out)
      have HBB1 := Lib.hid (below_next H4.out hb1)
      clear ho1 ho2 hb1 H1 H4 HBK
      go_wp2
      go_loopw [9] (fun i wi => ∃ (j : Nat) (cs : Array Value) (f' : Nat → Bool), j ≤ N + 1 ∧ i = .int .i64 j ∧ Hid (wi.heap[w.heap.size]? = some (.cells cs 4 (0, 0))) ∧ Hid (cs.toList = mk Q f') ∧
          Hid (∀ y, y < Q → (f' y = true ↔ BeamTo F p (F.st y) ∨ ∃ k, k < j ∧ F.st y = F.go S0 k)) ∧ Hid (wi.ownsRow wo.heap.size 3 1 (.slice A1 (N + 1) c1) (N + 1) (iv (wayC F S0 (N + 1)))) ∧
          Hid (wi.ownsRow wo.heap.size 3 1 (.slice A2 (N + 1) c2) (N + 1) (iv (wayD F S0 (N + 1)))) ∧ Hid (Below w.heap.size w wi)) (fun i _ => N + 1 - (intOf i).toNat)
      case atStart => exact ⟨0, cs, f, Nat.zero_le _, rfl, HM1.out, H2.out, fun y hy => by
          rw [H3.out y hy]
          exact ⟨.inl, fun h => h.elim id fun ⟨k, hk, _⟩ => absurd hk (by omega)⟩, HO1.out, HO2.out, HBB1.out⟩
      case round =>
        obtain ⟨j, cs, f', hj, rfl, K1, K2, K3, K4, K5, K6⟩ := hrel
        by_cases hjl : j < N + 1
        · have hok := HOKp.out j hjl
          have hd4 := hok.2.2
          have hcode := HLT.out _ hok
          have HCD := Lib.hid (fun y => code_eq_st hok (y := y))
          have g1 := iv_get (wayC F S0 (N + 1)) j (by rw [wayC_length]; exact hjl)
          have g2 := iv_get (wayD F S0 (N + 1)) j (by rw [wayD_length]; exact hjl)
          rw [show (wayC F S0 (N + 1))[j]'(by rw [wayC_length]; exact hjl) = (F.cellN (F.go S0 j) : Int) by simp [wayC]] at g1
          rw [show (wayD F S0 (N + 1))[j]'(by rw [wayD_length]; exact hjl) = ((F.go S0 j).d : Int) by simp [wayD]] at g2
          obtain ⟨b1, o1, hA1, hb1, x1⟩ := (Rd.of_own K4.out).at_ g1
          subst hA1
          obtain ⟨b2, o2, hA2, hb2, x2⟩ := (Rd.of_own K5.out).at_ g2
          subst hA2
          have hcd : F.code (F.go S0 j) = 4 * F.cellN (F.go S0 j) + (F.go S0 j).d := rfl
          rw [hcd] at hcode HCD
          have HJ := Lib.hid (show ∀ y, (∃ k, k < j + 1 ∧ F.st y = F.go S0 k) ↔ (∃ k, k < j ∧ F.st y = F.go S0 k) ∨ F.st y = F.go S0 j from fun y => ⟨fun ⟨k, hk, e⟩ => by
            by_cases h : k = j
            · subst h; exact .inr e
            · exact .inl ⟨k, by omega, e⟩, fun h => h.elim (fun ⟨k, hk, e⟩ => ⟨k, by omega, e⟩) fun e => ⟨j, by omega, e⟩⟩)
          generalize F.cellN (F.go S0 j) = x at *
          generalize (F.go S0 j).d = d at *
          have hx4 : 4 * x + d < Q := by omega
          obtain ⟨hxs, hcv⟩ := mk_cell K2.out hx4
          have hf2 := row_frozen K1.out (4 * x + d)
          have hc2 := row_cell K1.out (4 * x + d) hxs
          have hsz := mk_size K2.out
          have K2' := Lib.hid (show (cs.setIfInBounds (4 * x + d) (.bool true)).toList = mk Q fun y => f' y || decide (y = 4 * x + d) by
            rw [Array.toList_setIfInBounds, K2.out, mk_set Q f' _ hx4])
          have K3' := Lib.hid (show ∀ y, y < Q → ((f' y || decide (y = 4 * x + d)) = true ↔ BeamTo F p (F.st y) ∨ ∃ k, k < j + 1 ∧ F.st y = F.go S0 k) from fun y hy => by
            rw [Bool.or_eq_true, decide_eq_true_iff, K3.out y hy, HCD.out y, HJ.out y, or_assoc])
          clear g1 g2 hcd hok hcode hcv
          have hw4 : IntKind.i64.wrap ((4 : Int) * (x : Int)) = (4 : Int) * (x : Int) := IntWalk.i64_in _ (by omega)
          have hw5 : IntKind.i64.wrap ((4 : Int) * (x : Int) + (d : Int)) = (4 : Int) * (x : Int) + (d : Int) := IntWalk.i64_in _ (by omega)
          have htn : ((4 : Int) * (x : Int) + (d : Int)).toNat = 4 * x + d := by omega
          have hxI : (4 : Int) * (x : Int) + (d : Int) < (Q : Int) := by omega
          have hxI0 : (0 : Int) ≤ (4 : Int) * (x : Int) + (d : Int) := by omega
          go_wp2_with fail
          go_still_tail 12, (by kernel_rfl)
          change wpList _ _ _ _ _ (World.drew wr)
          go_wp2
          go_roundw
          case rel => exact ⟨j + 1, _, _, by omega, by go_num, row_set K1.out _ _, K2'.out, K3'.out, own_drew' (own_far K4.out (grown_set (World.grownBy.refl _ _) _ _) (fun k hk => by injection hk with hk; omega)), own_drew' (own_far K5.out (grown_set (World.grownBy.refl _ _) _ _) (fun k hk => by injection hk with hk; omega)), (K6.out.setCell (Nat.le_refl _) _).drew⟩
          case measure => simp [intOf]; omega
        · have hjN : j = N + 1 := by omega
          have H3' := Lib.hid (show ∀ y, y < Q → (f' y = true ↔ BeamTo F (p + 1) (F.st y)) from fun y hy => by rw [K3.out y hy, HS.out, HB1.out, hjN])
          clear hjN
          go_wp2
          go_roundw
          case rel => exact ⟨p + 1, cs, f', by omega, by go_num, K1.out, K2.out, H3'.out, K6.out⟩
          case measure => simp [intOf]; omega
    · have hlti : ¬ ((p : Int) < 2 * ((g.length : Int) + (s0.size : Int))) := by omega
      have hpP : p = P := by omega
      have HF := Lib.hid (show mk Q f = mk Q F.beamB from mk_ext fun y hy => by rw [H3.out y hy, hpP, HALL.out, HFB.out])
      clear hps hpP
      go_wp2_with fail
      refine (l2Ports_any g.length s0.size (by omega) hz5 _).mono ?_
      rintro e w' ⟨rfl, rfl⟩
      go_wp2
      go_ret
      exact ⟨w.heap.size, cs, rfl, H1.out, by rw [H2.out, HF.out], Nat.le_refl _, H4.out⟩
theorem marked_zero {F : Fd} {t : St} : F.Marked 0 t ↔ F.Beamed t := ⟨fun h => h.elim id fun ⟨y, hy, _⟩ => absurd hy (by omega), .inl⟩
theorem marked_no {F : Fd} {x : Nat} (h : ¬ F.Lead x) {t : St} : F.Marked (x + 1) t ↔ F.Marked x t := by
  rw [Fd.marked_succ]
  exact ⟨fun h' => h'.elim id fun ⟨h1, _⟩ => absurd h1 h, .inl⟩
theorem same_lt {F : Fd} {s t : St} {K : Nat} (hK : F.Comes s K) : F.Same s t ↔ ∃ k, k < K ∧ (t = F.go s k ∨ t = F.rev (F.go s k)) := by
  constructor
  · rintro ⟨k, h⟩
    refine ⟨k % K, Nat.mod_lt _ hK.pos, ?_⟩
    rw [← Fd.go_mod hK]; exact h
  · rintro ⟨k, _, h⟩; exact ⟨k, h⟩
theorem marked_yes {F : Fd} {x K : Nat} (hl : F.Lead x) (hK : F.Comes (F.st x) K) {t : St} : F.Marked (x + 1) t ↔ F.Marked x t ∨ ∃ k, k < K ∧ (t = F.go (F.st x) k ∨ t = F.rev (F.go (F.st x) k)) := by
  rw [Fd.marked_succ, same_lt hK]
  exact ⟨fun h => h.elim .inl fun h => .inr h.2, fun h => h.elim .inl fun h => .inr ⟨hl, h⟩⟩
theorem ex_lt_succ {j : Nat} {Q : Nat → Prop} : (∃ k, k < j + 1 ∧ Q k) ↔ (∃ k, k < j ∧ Q k) ∨ Q j := ⟨fun ⟨k, hk, e⟩ => by
  by_cases h : k = j
  · subst h; exact .inr e
  · exact .inl ⟨k, by omega, e⟩, fun h => h.elim (fun ⟨k, hk, e⟩ => ⟨k, by omega, e⟩) fun e => ⟨j, by omega, e⟩⟩
/-- the lengths of the rounds below x -/
noncomputable def lensTo (F : Fd) (x : Nat) : List Nat := (leadsTo F x).map fun y => F.per (F.st y)
theorem lensTo_yes {F : Fd} {x : Nat} (h : F.Lead x) : lensTo F (x + 1) = lensTo F x ++ [F.per (F.st x)] := by unfold lensTo; rw [leadsTo_yes h, List.map_append]; rfl
theorem lensTo_no {F : Fd} {x : Nat} (h : ¬ F.Lead x) : lensTo F (x + 1) = lensTo F x := by unfold lensTo; rw [leadsTo_no h]
theorem lensTo_length (F : Fd) (x : Nat) : (lensTo F x).length ≤ x := by unfold lensTo; rw [List.length_map]; exact leadsTo_le F x
theorem lensTo_all (F : Fd) : lensTo F (4 * (F.n * F.m)) = F.lens := rfl
theorem xor_two (o : Nat) (h : o < 4) : bits BinOp.xor IntKind.i64 (o : Int) 2 = (((o + 2) % 4 : Nat) : Int) := by
  rcases (show o = 0 ∨ o = 1 ∨ o = 2 ∨ o = 3 by omega) with rfl | rfl | rfl | rfl <;> decide
/-- numbers come back -/
def FreshN (l : List Int) (w : World) (e : Ending) (w' : World) : Prop :=
  ∃ A c, e = .returned (.slice A l.length c) ∧ w'.ownsRow w.heap.size 3 1 (.slice A l.length c) l.length (iv l) ∧ Below w.heap.size w w'
end Go.Proofs.Ythjllnabjnjpmaa
