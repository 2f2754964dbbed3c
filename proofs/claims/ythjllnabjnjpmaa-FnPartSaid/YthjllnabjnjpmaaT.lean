/-
  CONTRACTS OF THE DRAWS: a reader of a code, pick, of.
-/
import Derived.Test.YthjllnabjnjpmaaJ
namespace Go.Proofs.Ythjllnabjnjpmaa
set_option maxRecDepth 100000
open Go.RowKit

/-- a reader in block rb: what it reads and how far it is -/
def Rdr (w : World) (rb : Nat) (A : Option Addr) (n c p : Nat) : Prop := w.heap[rb]? = some (.cells #[.slice A n c, .int .i64 p] 82 (0, 0))
theorem Rdr.c0 {w : World} {rb n c p : Nat} {A : Option Addr} (h : Rdr w rb A n c p) : w.cell? ⟨rb, 0, none⟩ = some (.slice A n c) := by
  rw [cell_of_row _ _ 0 _ _ (0, 0) h]; rfl
theorem Rdr.c1 {w : World} {rb n c p : Nat} {A : Option Addr} (h : Rdr w rb A n c p) : w.cell? ⟨rb, 1, none⟩ = some (.int .i64 p) := by
  rw [cell_of_row _ _ 1 _ _ (0, 0) h]; rfl
theorem Rdr.fr {w : World} {rb n c p : Nat} {A : Option Addr} (h : Rdr w rb A n c p) (i : Nat) : w.frozen? ⟨rb, i, none⟩ = false := row_frozen h i
theorem Rdr.lt {w : World} {rb n c p : Nat} {A : Option Addr} (h : Rdr w rb A n c p) : rb < w.heap.size := (Array.getElem?_eq_some_iff.1 h).1
theorem Rdr.set {w : World} {rb n c p q : Nat} {A : Option Addr} (h : Rdr w rb A n c p) : Rdr (w.setCell ⟨rb, 1, none⟩ (.int .i64 q)) rb A n c q := by
  have := row_set h 1 (.int .i64 q)
  exact this
theorem Rdr.keep {w w' : World} {rb n c p : Nat} {A : Option Addr} {row : Option Nat} (h : Rdr w rb A n c p) (hg : w.grownBy w' row) (hne : row ≠ some rb) : Rdr w' rb A n c p :=
  (hg.block rb h.lt (fun e => hne e.symm)).trans h
theorem Rdr.below {w w' : World} {rb n c p : Nat} {A : Option Addr} (h : Rdr w rb A n c p) (hb : Below w.heap.size w w') : Rdr w' rb A n c p := (hb.block rb h.lt).trans h
theorem own_ne_rdr {w : World} {rb c0 n0 p : Nat} {A : Option Addr} {base e size n : Nat} {v : Value} {xs : List Value} (h : w.ownsRow base e size v n xs) (hr : Rdr w rb A n0 c0 p) (hne : e ≠ 82) : v.ownBlock ≠ some rb := by
  rcases h.2 with ⟨rfl, _⟩ | ⟨g, cap, cur, rfl, _, hg, _⟩
  · simp [Value.ownBlock]
  · simp only [Value.ownBlock, ne_eq, Option.some.injEq]
    rintro rfl
    unfold Rdr at hr
    rw [hg] at hr
    injection hr with h1
    injection h1 with _ h2 _
    exact hne h2

theorem xor_i64 (a b : Nat) (ha : a < 4611686018427387904) (hb : b < 4611686018427387904) : bits .xor .i64 (a : Int) (b : Int) = ((a ^^^ b : Nat) : Int) := by
  have hx : a ^^^ b < 2 ^ 62 := Nat.xor_lt_two_pow (by omega) (by omega)
  have h1 : (BitVec.ofInt 64 (a : Int)).toNat = a := by
    rw [BitVec.ofInt_natCast, BitVec.toNat_ofNat]; exact Nat.mod_eq_of_lt (by omega)
  have h2 : (BitVec.ofInt 64 (b : Int)).toNat = b := by
    rw [BitVec.ofInt_natCast, BitVec.toNat_ofNat]; exact Nat.mod_eq_of_lt (by omega)
  show IntKind.i64.wrap ((BitVec.ofInt 64 (a : Int) ^^^ BitVec.ofInt 64 (b : Int)).toNat : Int) = _
  rw [BitVec.toNat_xor, h1, h2]
  exact IntWalk.i64_in _ (by omega)
theorem xor_shift (X : Int) (h0 : 0 ≤ X) (h1 : X ≤ 1000000000) : ∃ z : Nat, bits .xor .i64 X (X / 64) = (z : Int) ∧ z ≤ 9223372036854775807 := by
  obtain ⟨x, rfl⟩ := Int.eq_ofNat_of_zero_le h0
  have e : ((x : Int) / 64) = ((x / 64 : Nat) : Int) := rfl
  refine ⟨x ^^^ (x / 64), ?_, ?_⟩
  · rw [e]
    exact xor_i64 _ _ (by omega) (by omega)
  · have : x ^^^ (x / 64) < 2 ^ 30 := Nat.xor_lt_two_pow (by omega) (by omega)
    omega
theorem grown_drewN {w a : World} {row : Option Nat} (h : w.grownBy a row) (n : Nat) : w.grownBy (a.drewN n) row := ⟨h.os, h.tape, h.output, h.size, h.block⟩
def PickPost (l : List UInt8) (A : Option Addr) (c rb p : Nat) (n : Int) (w : World) (e : Ending) (w' : World) : Prop :=
  ∃ v : Nat, e = .returned (.int .i64 v) ∧ (v = 0 ∨ (v : Int) < n) ∧ Rdr w' rb A l.length c (p + 1) ∧ w.grownBy w' (some rb)
theorem u8_lt (b : UInt8) : (b.toNat : Int) ≤ 255 := by have := b.toNat_lt; omega

set_option maxHeartbeats 1600000 in
theorem pick_any (l : List UInt8) (A : Option Addr) (c rb p B : Nat) (n : Int) (w : World) (hr : Rdr w rb A l.length c p) (hl : Rd w B A (bv l)) (hB : B ≤ rb) (hp : p ≤ 100000) (hll : l.length ≤ 2000) (hn : n ≤ 1000000) (hn0 : -1000000 ≤ n) :
    Calls Try.prog 30 #[.pointer (some ⟨rb, 0, none⟩), .int .i64 n] w (PickPost l A c rb p n w) := by
  have h0 := hr.c0
  have h1 := hr.c1
  have hf := hr.fr 1
  have hr1 : Rdr (w.setCell ⟨rb, 1, none⟩ (.int .i64 ((p : Int) + 1))) rb A l.length c (p + 1) := hr.set
  have hg1 : w.grownBy (w.setCell ⟨rb, 1, none⟩ (.int .i64 ((p : Int) + 1))) (some rb) := grown_set (World.grownBy.refl _ _) 1 _
  have hl1 := hl.grown hg1 (Nat.le_trans hB (Nat.le_of_lt hr.lt)) (fun g hg => by injection hg with hg; omega)
  have k0 := hr1.c0
  have k1 : (w.setCell ⟨rb, 1, none⟩ (.int .i64 ((p : Int) + 1))).cell? ⟨rb, 1, none⟩ = some (.int .i64 ((p : Int) + 1)) := hr1.c1
  have HR1 := Lib.hid hr1
  have HG1 := Lib.hid hg1
  have HL1 := Lib.hid hl1
  clear hr hl hr1 hg1 hl1
  by_cases hn1 : n < 1
  · go_enter Try.func30, Try.ntmps30
    go_wp2
    go_ret
    exact ⟨0, rfl, .inl rfl, HR1.out, HG1.out⟩
  · by_cases hl0 : l.length = 0
    · have hl0b : ((l.length : Int) == 0) = true := by rw [hl0]; rfl
      have hnb : decide (n < 1) = false := decide_eq_false hn1
      clear hl0
      go_enter Try.func30, Try.ntmps30
      go_wp2
      go_ret
      exact ⟨0, rfl, .inl rfl, HR1.out, HG1.out⟩
    · have hl0b : ((l.length : Int) == 0) = false := beq_eq_false_iff_ne.2 (by omega)
      have hnb : decide (n < 1) = false := decide_eq_false hn1
      obtain ⟨b, off, rfl, hbB, hbb⟩ := HL1.out.at_ (bv_get l 0 (by omega))
      obtain ⟨n, rfl⟩ := Int.eq_ofNat_of_zero_le (show 0 ≤ n by omega)
      have hnn : ¬ (n = 0) := by omega
      by_cases hpl : p < l.length
      · have hc := HL1.out.cell (bv_get l p hpl)
        have hu := u8_lt l[p]
        have hu0 : (0 : Int) ≤ (l[p].toNat : Int) := by omega
        generalize l[p] = x at *
        clear hbb hl0
        go_enter Try.func30, Try.ntmps30
        go_wp2
        go_ret
        exact ⟨x.toNat % n, rfl, .inr (Int.ofNat_lt.2 (Nat.mod_lt _ (by omega))), HR1.out, HG1.out⟩
      · have hm1 : p % l.length < l.length := Nat.mod_lt _ (by omega)
        have hm2 : (p * 7 + 3) % l.length < l.length := Nat.mod_lt _ (by omega)
        have hc1 := HL1.out.cell (bv_get l _ hm1)
        have hc2 := HL1.out.cell (bv_get l _ hm2)
        have hu1 := u8_lt (l[p % l.length]'hm1)
        have hu10 : (0 : Int) ≤ ((l[p % l.length]'hm1).toNat : Int) := by omega
        have hu2 := u8_lt (l[(p * 7 + 3) % l.length]'hm2)
        have hu20 : (0 : Int) ≤ ((l[(p * 7 + 3) % l.length]'hm2).toNat : Int) := by omega
        have hne : ¬ (l.length = 0) := hl0
        have hmod1 : (p : Int) % (l.length : Int) = ((p % l.length : Nat) : Int) := rfl
        have hmod2 : ((p : Int) * 7 + 3) % (l.length : Int) = (((p * 7 + 3) % l.length : Nat) : Int) := rfl
        have htm1 : (p : Int).tmod (l.length : Int) = ((p % l.length : Nat) : Int) := rfl
        have htm2 : ((p : Int) * 7 + 3).tmod (l.length : Int) = (((p * 7 + 3) % l.length : Nat) : Int) := rfl
        have hdv : (p : Int) / (l.length : Int) = ((p / l.length : Nat) : Int) := rfl
        have hqle : p / l.length ≤ 100000 := Nat.le_trans (Nat.div_le_self _ _) hp
        have hL2 : (l.length : Int) ≤ 2000 := by omega
        generalize (l[p % l.length]'hm1) = x1 at *
        generalize (l[(p * 7 + 3) % l.length]'hm2) = x2 at *
        have hi1 : ((p % l.length : Nat) : Int) < (l.length : Int) := Int.ofNat_lt.2 hm1
        have hi2 : (((p * 7 + 3) % l.length : Nat) : Int) < (l.length : Int) := Int.ofNat_lt.2 hm2
        have hj1 : (0 : Int) ≤ ((p % l.length : Nat) : Int) := Int.natCast_nonneg _
        have hj2 : (0 : Int) ≤ (((p * 7 + 3) % l.length : Nat) : Int) := Int.natCast_nonneg _
        clear hbb hl0 hm1 hm2
        generalize p % l.length = i1 at *
        generalize (p * 7 + 3) % l.length = i2 at *
        generalize p / l.length = q at *
        have hwq : IntKind.i64.wrap (q : Int) = (q : Int) := IntWalk.i64_in _ (by omega)
        go_enter Try.func30, Try.ntmps30
        go_wp2_with fail
        go_quiet (fail)
        obtain ⟨X, hX⟩ : ∃ X : Int, X = (x1.toNat : Int) * 131 + (x2.toNat : Int) * 1117 + (p : Int) * 29 + (q : Int) * 53 := ⟨_, rfl⟩
        have hX0 : 0 ≤ X := by omega
        have hX1 : X ≤ 1000000000 := by omega
        rw [← hX]
        clear hX
        obtain ⟨z, hz, hz1⟩ := xor_shift X hX0 hX1
        go_wp2
        go_ret
        exact ⟨z % n, rfl, .inr (Int.ofNat_lt.2 (Nat.mod_lt _ (by omega))), HR1.out, grown_drewN HG1.out _⟩
end Go.Proofs.Ythjllnabjnjpmaa
