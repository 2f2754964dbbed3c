/-
  CONTRACTS OF THE DRAWS: some grid.
-/
import Derived.Test.YthjllnabjnjpmaaV
import Derived.Test.YthjllnabjnjpmaaS
namespace Go.Proofs.Ythjllnabjnjpmaa
set_option maxRecDepth 100000
open Go.RowKit

theorem own_base {w : World} {base base' : Nat} {e : TypeId} {size : Nat} {v : Value} {n : Nat} {xs : List Value} (h : w.ownsRow base e size v n xs) (hb : base' ≤ base) : w.ownsRow base' e size v n xs :=
  ⟨h.1, h.2.imp id fun ⟨g, cap, cur, h1, h2, h3⟩ => ⟨g, cap, cur, h1, Nat.le_trans hb h2, h3⟩⟩
theorem own_grown_set {w a : World} {gb i : Nat} {row : Option Nat} {u : Value} (h : w.grownBy a row) (hB : w.heap.size ≤ gb) : w.grownBy (a.setCell ⟨gb, i, none⟩ u) row :=
  ⟨h.os, h.tape, h.output, by simpa [World.setCell] using h.size, fun j hj hne => by
    have hjg : gb ≠ j := by omega
    rw [← h.block j hj hne]
    simp [World.setCell, Array.getElem?_modify, hjg]⟩
def DrawW (hi : Nat) (l : List UInt8) (A : Option Addr) (c rb p K : Nat) (mx : Nat) (w : World) (e : Ending) (w' : World) : Prop :=
  DrawS 1 hi l A c rb p K mx w e w'

set_option maxHeartbeats 1600000 in
theorem l91Some_any (l : List UInt8) (A : Option Addr) (c rb p B rows cols : Nat) (w : World) (hr : Rdr w rb A l.length c p) (hl : Rd w B A (bv l)) (hB : B ≤ rb) (hp : p ≤ 5000) (hll : l.length ≤ 2000) (hn : 1 ≤ rows ∧ rows ≤ 6) (hm : 1 ≤ cols ∧ cols ≤ 6) :
    Calls Try.prog 29 #[.pointer (some ⟨rb, 0, none⟩), .int .i64 rows, .int .i64 cols] w (DrawW rows l A c rb p 110 (cols + 1) w) := by
  obtain ⟨hn1, hn2⟩ := hn
  obtain ⟨hm1, hm2⟩ := hm
  go_enter Try.func29, Try.ntmps29
  go_wp2_with fail
  refine (pick_any l A c rb p B rows _ hr hl hB (by omega) hll (by omega) (by omega)).mono ?_
  rintro e w1 ⟨v, rfl, hv, hr1, hg1⟩
  obtain ⟨a, hea⟩ : ∃ a : Nat, (1 : Int) + (v : Int) = (a : Int) := ⟨v + 1, by omega⟩
  have hv1 : a ≤ rows ∧ 1 ≤ a := by omega
  have hl1 := hl.grown hg1 (Nat.le_trans hB (Nat.le_of_lt hr.lt)) (fun g hg => by injection hg with hg; omega)
  clear hr hl hv
  go_wp2_with fail
  refine (pick_any l A c rb (p + 1) B cols _ hr1 hl1 hB (by omega) hll (by omega) (by omega)).mono ?_
  rintro e w2 ⟨u, rfl, hu, hr2, hg2⟩
  obtain ⟨b, heb⟩ : ∃ b : Nat, (1 : Int) + (u : Int) = (b : Int) := ⟨u + 1, by omega⟩
  have hu1 : b ≤ cols ∧ 1 ≤ b := by omega
  have hl2 := hl1.grown hg2 (Nat.le_trans hB (Nat.le_of_lt hr1.lt)) (fun g hg => by injection hg with hg; omega)
  have hgw2 := grown_trans hg1 hg2
  clear hr1 hl1 hu hg1 hg2
  go_wp2_with fail
  refine (l91Of_any l A c rb (p + 1 + 1) B a b _ hr2 hl2 hB (by omega) hll (by omega) (by omega)).mono ?_
  rintro e w3 ⟨g, A3, c3, p3, rfl, hown, hlo, hhi, hsz, hr3, hp3, hg3⟩
  have hgl := Lib.hid (show g.length = a by omega)
  clear hea heb
  have hl3 := hl2.grown hg3 (Nat.le_trans hB (Nat.le_of_lt hr2.lt)) (fun g hg => by injection hg with hg; omega)
  have hown2 : w3.ownsRow w.heap.size 9 1 (.slice A3 g.length c3) g.length (sv g) := own_base hown hgw2.size
  have hgw3 := grown_trans hgw2 hg3
  clear hown hlo hhi hr2 hl2 hg3 hgw2
  have HO := Lib.hid hown2
  clear hown2
  go_wp2_with fail
  refine (pick_any l A c rb p3 B 60 _ hr3 hl3 hB (by omega) hll (by omega) (by omega)).mono ?_
  rintro e w4 ⟨d, rfl, hd, hr4, hg4⟩
  have HO4 := Lib.hid (own_pick HO.out hr3 hg4 (by decide))
  have HR4 := Lib.hid hr4
  have HG4 := Lib.hid (grown_trans hgw3 hg4)
  clear HO hr3 hr4 hgw3 hg4 hd hl3
  by_cases hd0 : d = 0
  · have hb0 : ((d : Int) == 0) = true := by rw [hd0]; rfl
    clear hd0
    obtain ⟨gb, cap, hv, hgb, hgb2⟩ := own_shape HO4.out (by have := hgl.out; omega)
    injection hv with hA _ hc
    subst hA; subst hc
    have hg0 : 0 < g.length := by have := hgl.out; omega
    obtain ⟨s0, hs0⟩ : ∃ s0, g[0] = s0 := ⟨_, rfl⟩
    have hc5 : w4.cell? ⟨gb, 0, none⟩ = some (.string s0) := by
      have := (Rd.of_own HO4.out).cell (i := 0) (u := .string s0) (by rw [sv_get g 0 hg0, hs0])
      simpa using this
    have hf5 : w4.frozen? ⟨gb, 0, none⟩ = false := own_frozen HO4.out 0
    obtain ⟨hs1, hs2⟩ := hsz s0 (by rw [← hs0]; exact List.getElem_mem _)
    have HS0 := Lib.hid hs0
    clear hs0
    go_wp2
    go_ret
    have hlen : (g.set 0 (s0.extract 1 s0.size ++ ⟨#[120]⟩)).length = g.length := List.length_set
    refine ⟨g.set 0 (s0.extract 1 s0.size ++ ⟨#[120]⟩), some ⟨gb, 0, none⟩, c3, p3 + 1, by rw [hlen]; rfl, ?_, by rw [hlen, hgl.out]; omega, by rw [hlen, hgl.out]; omega, ?_, ?_, by omega, own_grown_set HG4.out hgb⟩
    · rw [hlen]
      have e : sv (g.set 0 (s0.extract 1 s0.size ++ ⟨#[120]⟩)) = (sv g).set 0 (.string (s0.extract 1 s0.size ++ ⟨#[120]⟩)) := by simp [sv, List.map_set]
      rw [e]; exact own_set HO4.out hg0
    · intro s hs
      rcases List.mem_or_eq_of_mem_set hs with h | h
      · have := hsz s h; omega
      · subst h
        have e : (s0.extract 1 s0.size ++ (⟨#[120]⟩ : ByteArray)).size = s0.size - 1 + 1 := by rw [ByteArray.size_append, ByteArray.size_extract]; simp; rfl
        omega
    · exact Rdr.keep HR4.out (grown_set (World.grownBy.refl _ _) 0 _) (own_ne_rdr HO4.out HR4.out (by decide))
  · by_cases hd1 : d = 1
    · have hb0 : ((d : Int) == 0) = false := by rw [hd1]; rfl
      have hb1 : ((d : Int) == 1) = true := by rw [hd1]; rfl
      clear hd0 hd1
      obtain ⟨gb, cap, hv, hgb, hgb2⟩ := own_shape HO4.out (by have := hgl.out; omega)
      injection hv with hA _ hc
      subst hA; subst hc
      have hg0 : a - 1 < g.length := by have := hgl.out; omega
      obtain ⟨k, hk⟩ : ∃ k : Nat, (a : Int) - 1 = (k : Int) := ⟨a - 1, by omega⟩
      have hka : k < g.length := by omega
      obtain ⟨s0, hs0⟩ : ∃ s0, g[k] = s0 := ⟨_, rfl⟩
      have hc5 : w4.cell? ⟨gb, k, none⟩ = some (.string s0) := by
        have := (Rd.of_own HO4.out).cell (i := k) (u := .string s0) (by rw [sv_get g k hka, hs0])
        simpa using this
      have hf5 : w4.frozen? ⟨gb, k, none⟩ = false := own_frozen HO4.out k
      obtain ⟨hs1, hs2⟩ := hsz s0 (by rw [← hs0]; exact List.getElem_mem _)
      have HS0 := Lib.hid hs0
      clear hs0 hg0
      go_wp2
      go_ret
      have hlen : (g.set k (s0 ++ ⟨#[46]⟩)).length = g.length := List.length_set
      refine ⟨g.set k (s0 ++ ⟨#[46]⟩), some ⟨gb, 0, none⟩, c3, p3 + 1, by rw [hlen]; rfl, ?_, by rw [hlen, hgl.out]; omega, by rw [hlen, hgl.out]; omega, ?_, ?_, by omega, own_grown_set HG4.out hgb⟩
      · rw [hlen]
        have e : sv (g.set k (s0 ++ ⟨#[46]⟩)) = (sv g).set k (.string (s0 ++ ⟨#[46]⟩)) := by simp [sv, List.map_set]
        rw [e]; exact own_set HO4.out hka
      · intro s hs
        rcases List.mem_or_eq_of_mem_set hs with h | h
        · have := hsz s h; omega
        · subst h
          have e : (s0 ++ (⟨#[46]⟩ : ByteArray)).size = s0.size + 1 := by rw [ByteArray.size_append]; rfl
          omega
      · exact Rdr.keep HR4.out (grown_set (World.grownBy.refl _ _) k _) (own_ne_rdr HO4.out HR4.out (by decide))
    · have hb0 : ((d : Int) == 0) = false := beq_eq_false_iff_ne.2 (by omega)
      have hb1 : ((d : Int) == 1) = false := beq_eq_false_iff_ne.2 (by omega)
      clear hd0 hd1
      go_wp2
      go_ret
      exact ⟨g, A3, c3, p3 + 1, rfl, HO4.out, by have := hgl.out; omega, by have := hgl.out; omega, fun s hs => by have := hsz s hs; omega, HR4.out, by omega, HG4.out⟩
end Go.Proofs.Ythjllnabjnjpmaa
