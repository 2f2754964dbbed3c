/-
  CONTRACT: beam of the program: the whole way of a beam, as steps.
-/
import Derived.Test.YthjllnabjnjpmaaBC
namespace Go.Proofs.Ythjllnabjnjpmaa
set_option maxRecDepth 100000
open Go.RowKit

theorem infoStep : (Try.prog.info? 77).map (fun i => (i.zero, i.size, i.bytes)) = some (some (.agg #[.int .i64 0, .int .i64 0]), 2, 16) := by kernel_rfl
/-- steps of a beam have come back -/
def BeamPost (F : Fd) (s : St) (K : Nat) (q : Int) (w : World) (e : Ending) (w' : World) : Prop :=
  ∃ A1 c1, e = .returned (.tuple #[.slice A1 K c1, .int .i64 q]) ∧ w'.ownsRow w.heap.size 77 2 (.slice A1 K c1) K (stC F s K) ∧ Below w.heap.size w w'
/-- where the walk stands behind k steps of N + 1 -/
def curS (F : Fd) (s : St) (N k : Nat) : St := if k ≤ N then F.go s k else F.go s N
def curE (N k q : Nat) : Int := if k ≤ N then -1 else q
theorem two_one (a b : Int) : ∀ u ∈ [Value.int .i64 a, Value.int .i64 b], u.oneCell' = true := by simp [Value.oneCell']
theorem own_empty2 (w : World) (e : Nat) : (w.alloc (.cells #[] e)).ownsRow w.heap.size e 2 (.slice (some ⟨w.heap.size, 0, none⟩) 0 0) 0 [] := World.ownsRow_made w #[] 0 (Nat.le_refl _) (by decide) rfl

/-- a step in block b -/
def Blk (w : World) (b : Nat) (x d : Int) : Prop := w.heap[b]? = some (.cells #[.int .i64 x, .int .i64 d] 77 (0, 0))
theorem Blk.c0 {w : World} {b : Nat} {x d : Int} (h : Blk w b x d) : w.cell? ⟨b, 0, none⟩ = some (.int .i64 x) := by rw [cell_of_row _ _ 0 _ _ (0, 0) h]; rfl
theorem Blk.c1 {w : World} {b : Nat} {x d : Int} (h : Blk w b x d) : w.cell? ⟨b, 1, none⟩ = some (.int .i64 d) := by rw [cell_of_row _ _ 1 _ _ (0, 0) h]; rfl
theorem Blk.fr {w : World} {b : Nat} {x d : Int} (h : Blk w b x d) (i : Nat) : w.frozen? ⟨b, i, none⟩ = false := row_frozen h i
theorem Blk.lt {w : World} {b : Nat} {x d : Int} (h : Blk w b x d) : b < w.heap.size := (Array.getElem?_eq_some_iff.1 h).1
theorem Blk.keep {w w' : World} {b : Nat} {x d : Int} {row : Option Nat} (h : Blk w b x d) (hg : w.grownBy w' row) (hne : row ≠ some b) : Blk w' b x d := (hg.block b h.lt (fun e => hne e.symm)).trans h
theorem Blk.below {w w' : World} {b : Nat} {x d : Int} (h : Blk w b x d) (hb : Below w.heap.size w w') : Blk w' b x d := (hb.block b h.lt).trans h
theorem Blk.alloc {w : World} {b : Nat} {x d : Int} (h : Blk w b x d) (o : Obj) : Blk (w.alloc o) b x d := (Below.heap_alloc w o b h.lt).trans h
theorem Blk.set2 {w : World} {b : Nat} {x d : Int} (h : Blk w b x d) (x' d' : Int) : Blk ((w.setCell ⟨b, 0, none⟩ (.int .i64 x')).setCell ⟨b, 1, none⟩ (.int .i64 d')) b x' d' := row_set (row_set h 0 (.int .i64 x')) 1 (.int .i64 d')
theorem blk_new (w : World) (x d : Int) : Blk (w.alloc (.cells #[.int .i64 x, .int .i64 d] 77)) w.heap.size x d := heap_alloc_new w _
theorem grown_set2 {w : World} {b : Nat} (u v : Value) (i j : Nat) : w.grownBy ((w.setCell ⟨b, i, none⟩ u).setCell ⟨b, j, none⟩ v) (some b) := grown_set (grown_set (World.grownBy.refl _ _) i u) j v

theorem own_form2 {w : World} {base e size n : Nat} {v : Value} {xs : List Value} (h : w.ownsRow base e size v n xs) : ∃ A c, v = .slice A n c ∧ n ≤ c ∧ c ≤ maxLen := by
  rcases h.2 with ⟨rfl, rfl⟩ | ⟨g, cap, cur, rfl, _, _, hnc, hm, _⟩
  · exact ⟨none, 0, rfl, Nat.le_refl _, by simp [maxLen]⟩
  · exact ⟨_, _, rfl, hnc, hm⟩

set_option maxRecDepth 100000 in
set_option maxHeartbeats 1600000 in
theorem beam_any (A : Option Addr) (cp : Nat) (g : List ByteArray) (p N q : Nat) (w : World) (hr : Rd w w.heap.size A (sv g)) (hg : gridB g = true) (hp : p < portsN g) (he : (fld g).Ends ((fld g).enter p) N q) (hN : N ≤ 100) :
    Calls Try.prog 60 #[.slice A g.length cp, .int .i64 p] w (BeamPost (fld g) ((fld g).enter p) (N + 1) q w) := by
  obtain ⟨j0, hji, hy0, hy1, hy2⟩ := info_parts infoStep
  have HE := Lib.hid (enter_any A cp g p _ ((hr.below (below_alloc1 w (.cells #[] 77))).more (show w.heap.size ≤ _ by simp)) hg hp)
  have hs0 := Fd.enter_ok (grid_hn hg) (grid_hm hg) (by rw [ports_fld]; exact hp)
  have HG := Lib.hid hg
  have HS := Lib.hid hs0
  have HEN := Lib.hid he
  have HR := Lib.hid hr
  clear hg hs0 he hr hp
  obtain ⟨S0, hS0⟩ : ∃ S0, S0 = (fld g).enter p := ⟨_, rfl⟩
  rw [← hS0] at HE HS HEN ⊢
  clear hS0
  go_enter Try.func60, Try.ntmps60
  go_wp2_with fail
  refine HE.out.mono ?_
  rintro e w1 ⟨rfl, hb1⟩
  have HO1 := Lib.hid ((own_keep (own_empty2 w 77) hb1).alloc (.cells #[.int .i64 ((fld g).cellN S0 : Nat), .int .i64 (S0.d : Nat)] 77))
  have HB1 := Lib.hid ((below_next (below_alloc1 w _) hb1).alloc (Nat.le_trans (by simp) hb1.size) (.cells #[.int .i64 ((fld g).cellN S0 : Nat), .int .i64 (S0.d : Nat)] 77))
  have hw1 : w.heap.size < w1.heap.size := Nat.lt_of_lt_of_le (by simp) hb1.size
  clear hb1 HE
  unfold stV
  go_wp2
  have HK1 := Lib.hid (blk_new w1 ((fld g).cellN S0 : Nat) (S0.d : Nat))
  go_loopw [6, 8] (fun v t wr => ∃ (k : Nat), k ≤ N + 1 ∧ t = .int .i64 (curE N k q) ∧ Hid (wr.ownsRow w.heap.size 77 2 v k (stC (fld g) S0 k)) ∧ Hid (Blk wr w1.heap.size ((fld g).cellN (curS (fld g) S0 N k) : Nat) ((curS (fld g) S0 N k).d : Nat)) ∧
      Hid (v.ownBlock ≠ some w1.heap.size) ∧ Hid (Below w.heap.size w wr)) (fun v _ _ => N + 1 - sliceLen v)
  case atStart =>
    have e1 : curE N 0 q = -1 := if_pos (Nat.zero_le _)
    have e2 : curS (fld g) S0 N 0 = S0 := if_pos (Nat.zero_le _)
    exact ⟨0, Nat.zero_le _, by rw [e1], HO1.out, by rw [e2]; exact HK1.out, by simp [Hid, Value.ownBlock]; omega, HB1.out⟩
  case round =>
    obtain ⟨k, hk, rfl, HO, HK, HNE, HB⟩ := hrel
    have hwz : w.heap.size ≤ wr.heap.size := HB.out.size
    by_cases hkN : k ≤ N
    · have e1 : curE N k q = -1 := if_pos hkN
      have e2 : curS (fld g) S0 N k = (fld g).go S0 k := if_pos hkN
      rw [e2] at HK
      have hok := Fd.go_ok HS.out HEN.out.on k hkN
      have hk1 : k + 1 ≤ maxLen := by simp only [maxLen]; omega
      have hk2 : (k + 1) * 16 ≤ 140737488355328 := by omega
      have HLN := Lib.hid (own_len HO.out)
      have c0 := HK.out.c0
      have c1 := HK.out.c1
      have HOK := Lib.hid hok
      rw [e1]
      clear e1 e2 hok
      go_wp2_with (at_builtin; refine wpList_append_own_at _ rfl _ _ 68 rfl w.heap.size 77 j0 (.agg #[.int .i64 0, .int .i64 0]) 2 16 Try.underlying68 hji hy0 hy1 hy2 rfl (by decide) _ _ _ rfl (HO.out.alloc _) ⟨(wr).heap.size, 0, none⟩ 1 1 [_, _] rfl rfl (cell_two_new _ _ _ _) (two_one _ _) hk1 hk2 (alloc_le hwz _) ?_)
      intro v' w2 hown2 hgrow2 _ hat2
      have HC2 := Lib.hid (show w2.ownsRow w.heap.size 77 2 v' (k + 1) (stC (fld g) S0 (k + 1)) by rw [stC_succ]; exact hown2)
      have HK2 := Lib.hid ((HK.out.alloc _).keep hgrow2 HNE.out)
      have HN2 := Lib.hid (show v'.ownBlock ≠ some w1.heap.size by
        rcases hat2 with h | h
        · rw [h]; exact HNE.out
        · rw [h]; intro e; injection e with e; have := HK.out.lt; omega)
      have HB2 := Lib.hid (below_grown (HB.out.alloc hwz (.cells #[.int .i64 ((fld g).cellN ((fld g).go S0 k) : Nat), .int .i64 (((fld g).go S0 k).d : Nat)] 77)) hgrow2 (fun g hg => own_ge HO.out g hg))
      have hnx : nextS (fld g) ((fld g).go S0 k) = curS (fld g) S0 N (k + 1) := by
        unfold curS
        by_cases h : k + 1 ≤ N
        · rw [if_pos h, nextS_on (HEN.out.on k (by omega))]; rfl
        · have : k = N := by omega
          rw [if_neg h, this, nextS_off HEN.out.off]
      have hex : exitI (fld g) ((fld g).go S0 k) = curE N (k + 1) q := by
        unfold curE
        by_cases h : k + 1 ≤ N
        · rw [if_pos h, exitI_on (HEN.out.on k (by omega))]
        · have : k = N := by omega
          rw [if_neg h, this, exitI_off HEN.out.off]
      have hA := after_any A cp g ((fld g).go S0 k) w2 (HR.out.later HB2.out) HG.out HOK.out
      rw [hnx, hex] at hA
      have HA := Lib.hid hA
      clear hnx hex hA
      have d0 := HK2.out.c0
      have d1 := HK2.out.c1
      clear hown2 hgrow2 hat2 HO HK HNE HB c0 c1
      go_wp2_with fail
      refine HA.out.mono ?_
      rintro e w3 ⟨rfl, hb3⟩
      have HK3 := Lib.hid (HK2.out.below hb3)
      have HC3 := Lib.hid (own_keep HC2.out hb3)
      have HB3 := Lib.hid (below_next HB2.out hb3)
      have HSL := Lib.hid (own_len HC3.out)
      have f0 := HK3.out.fr 0
      have f1 := HK3.out.fr 1
      have x0 := HK3.out.c0
      have x1 := HK3.out.c1
      clear hb3 HA HK2 HC2 HB2 d0 d1
      unfold stV
      go_wp2
      go_roundw
      case rel => exact ⟨k + 1, by omega, rfl, own_other HC3.out (grown_set2 _ _ 0 1) HN2.out, HK3.out.set2 _ _, HN2.out, HB3.out.grown (grown_set2 _ _ 0 1) HB3.out.size (fun g hg => by injection hg with hg; omega)⟩
      case measure =>
        have h1 := HLN.out
        have h2 := HSL.out
        omega
    · have hkN1 : k = N + 1 := by omega
      have e1 : curE N k q = (q : Int) := if_neg hkN
      have hq0 : (0 : Int) ≤ (q : Int) := Int.natCast_nonneg _
      rw [e1]
      obtain ⟨A1, cc1, rfl, _, _⟩ := own_form2 HO.out
      have HJ := Lib.hid hkN1
      clear e1 hkN1
      go_wp2
      go_ret2
      exact ⟨A1, cc1, by rw [← HJ.out]; rfl, by rw [← HJ.out]; exact HO.out, HB.out⟩
end Go.Proofs.Ythjllnabjnjpmaa
