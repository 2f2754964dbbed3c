/-
  CONTRACT: makeGrid, for every closure that answers a letter for a place.
-/
import Derived.Test.YthjllnabjnjpmaaC
namespace Go.Proofs.Ythjllnabjnjpmaa
set_option maxRecDepth 100000
open Go.RowKit

theorem infoU8 : (Try.prog.info? 5).map (fun i => (i.zero, i.size, i.bytes)) = some (some (.int .u8 0), 1, 1) := by kernel_rfl
def rowOf (m : Nat) (f : Nat → UInt8) : List UInt8 := (List.range m).map f
def mkG (n m : Nat) (f : Nat → Nat → UInt8) : List ByteArray := (List.range n).map fun r => bs (rowOf m (f r))
theorem rowOf_length (m : Nat) (f : Nat → UInt8) : (rowOf m f).length = m := by simp [rowOf]
theorem rowOf_succ (m : Nat) (f : Nat → UInt8) : rowOf (m + 1) f = rowOf m f ++ [f m] := by simp [rowOf, List.range_succ]
theorem mkG_length (n m : Nat) (f : Nat → Nat → UInt8) : (mkG n m f).length = n := by simp [mkG]
theorem mkG_succ (n m : Nat) (f : Nat → Nat → UInt8) : mkG (n + 1) m f = mkG n m f ++ [bs (rowOf m (f n))] := by simp [mkG, List.range_succ]

/-- streams as they were, no block gone -/
structure Str (w w' : World) : Prop where
  os : w'.os = w.os
  tape : w'.tape = w.tape
  output : w'.output = w.output
  size : w.heap.size ≤ w'.heap.size
theorem Str.refl (w : World) : Str w w := ⟨rfl, rfl, rfl, Nat.le_refl _⟩
theorem Str.trans {a b c : World} (h : Str a b) (k : Str b c) : Str a c := ⟨k.os.trans h.os, k.tape.trans h.tape, k.output.trans h.output, Nat.le_trans h.size k.size⟩
theorem Str.alloc {a b : World} (h : Str a b) (o : Obj) : Str a (b.alloc o) := h.trans ⟨rfl, rfl, rfl, by simp⟩
theorem Str.grown {a b c : World} {row : Option Nat} (h : Str a b) (k : b.grownBy c row) : Str a c := h.trans ⟨k.os, k.tape, k.output, k.size⟩

/-- a call that may write blocks below B alone -/
structure Aside (B : Nat) (w w' : World) : Prop where
  os : w'.os = w.os
  tape : w'.tape = w.tape
  output : w'.output = w.output
  size : w'.heap.size = w.heap.size
  block : ∀ k, B ≤ k → w'.heap[k]? = w.heap[k]?
theorem Aside.str {B : Nat} {w w' : World} (h : Aside B w w') : Str w w' := ⟨h.os, h.tape, h.output, Nat.le_of_eq h.size.symm⟩
theorem Aside.refl (B : Nat) (w : World) : Aside B w w := ⟨rfl, rfl, rfl, rfl, fun _ _ => rfl⟩
theorem Aside.own {B base e size n : Nat} {w w' : World} {v : Value} {xs : List Value} (h : w.ownsRow base e size v n xs) (ha : Aside B w w') (hb : B ≤ base) : w'.ownsRow base e size v n xs := by
  refine ⟨h.1, ?_⟩
  rcases h.2 with hn | ⟨g, cap, cur, hv, hbg, hg, rest⟩
  · exact .inl hn
  · exact .inr ⟨g, cap, cur, hv, hbg, by rw [ha.block g (by omega)]; exact hg, rest⟩

theorem call_enter {P : Program} {f : FuncId} {fn : Func} (hf : P.funcs[f]? = some fn) (hname : (fn.name == "runtime.NumGoroutine") = false) (hb : fn.body.isNone = false) (args : Array Value) (w : World) :
    (callFunc f args).run P w = .ok (.enter f args) w := by
  have h1 : ¬ fn.name = "runtime.NumGoroutine" := by simpa using hname
  have h2 : ¬ fn.body = none := by intro e; rw [e] at hb; cases hb
  simp [callFunc, hf, h1, h2]
/-- what is asked of a closure: I k holds ahead of its k-th call; it turns nothing from block B on -/
structure Clo (P : Program) (fid : Nat) (caps : Array Value) (B : Nat) (I : Nat → World → Prop) (n m : Nat) (f : Nat → Nat → UInt8) : Prop where
  call : ∀ (r c : Nat) (w : World), r < n → c < m → I (r * m + c) w → Calls P fid (#[.int .i64 r, .int .i64 c] ++ caps) w fun e w' => e = .returned (.int .u8 (f r c).toNat) ∧ I (r * m + c + 1) w' ∧ Aside B w w'
  enter : ∀ (args : Array Value) (w : World), (callFunc fid args).run P w = .ok (.enter fid args) w
  stay : ∀ (k : Nat) (w w' : World), I k w → (∀ b, b < B → w'.heap[b]? = w.heap[b]?) → I k w'
theorem Clo.alloc {P : Program} {fid : Nat} {caps : Array Value} {B : Nat} {I : Nat → World → Prop} {n m k : Nat} {f : Nat → Nat → UInt8} (h : Clo P fid caps B I n m f) {w : World} (hi : I k w) (hB : B ≤ w.heap.size) (o : Obj) : I k (w.alloc o) :=
  h.stay k w _ hi fun b hb => Below.heap_alloc w o b (by omega)
theorem Clo.grown {P : Program} {fid : Nat} {caps : Array Value} {B : Nat} {I : Nat → World → Prop} {n m k : Nat} {f : Nat → Nat → UInt8} (h : Clo P fid caps B I n m f) {w w' : World} {row : Option Nat} (hi : I k w) (hB : B ≤ w.heap.size)
    (hg : w.grownBy w' row) (hr : ∀ g, row = some g → B ≤ g) : I k w' :=
  h.stay k w w' hi fun b hb => hg.block b (by omega) (fun e => by have := hr b e.symm; omega)

def MadeG (B : Nat) (I : Nat → World → Prop) (n m : Nat) (g : List ByteArray) (w : World) (e : Ending) (w' : World) : Prop :=
  ∃ A c, e = .returned (.slice A n c) ∧ w'.ownsRow B 9 1 (.slice A n c) n (sv g) ∧ I (n * m) w' ∧ Str w w'

set_option maxHeartbeats 1000000 in
theorem makeGrid_any (fid : Nat) (caps : Array Value) (I : Nat → World → Prop) (n m : Nat) (f : Nat → Nat → UInt8) (w : World) (B : Nat) (hn : n ≤ 100) (hm : m ≤ 100) (hB : B ≤ w.heap.size)
    (hclo : Clo Try.prog fid caps B I n m f) (hI : I 0 w) :
    Calls Try.prog 45 #[.int .i64 n, .int .i64 m, .func (.func fid) #[] caps] w (MadeG B I n m (mkG n m f) w) := by
  obtain ⟨i0, hi, hz0, hz1, hz2⟩ := info_parts infoStr
  obtain ⟨j0, hj, hy0, hy1, hy2⟩ := info_parts infoU8
  have HC := Lib.hid hclo
  clear hclo
  go_enter Try.func45, Try.ntmps45
  go_wp2
  go_loopw [7, 13] (fun v i wr => ∃ (r : Nat), r ≤ n ∧ i = .int .i64 r ∧ Hid (wr.ownsRow B 9 1 v r (sv (mkG r m f))) ∧ Hid (I (r * m) wr) ∧ Hid (Str w wr)) (fun _ i _ => n - (intOf i).toNat)
  case atStart => exact ⟨0, Nat.zero_le _, rfl, World.ownsRow_made w _ 0 hB (by decide) rfl, by rw [Nat.zero_mul]; exact HC.out.alloc hI hB _, (Str.refl w).alloc _⟩
  case round =>
    obtain ⟨r, hr, rfl, HO, HI, HS⟩ := hrel
    by_cases hlt : r < n
    · obtain ⟨wo, rfl⟩ : ∃ wo : World, wo = wr := ⟨_, rfl⟩
      go_wp2
      go_loopw [9, 18] (fun v i wi => ∃ (c : Nat), c ≤ m ∧ i = .int .i64 c ∧ Hid (wi.ownsRow wo.heap.size 5 1 v c (bv (rowOf c (f r)))) ∧ Hid (wi.ownsRow B 9 1 u7 r (sv (mkG r m f))) ∧ Hid (I (r * m + c) wi) ∧ Hid (Str wo wi)) (fun _ i _ => m - (intOf i).toNat)
      case atStart => exact ⟨0, Nat.zero_le _, rfl, World.ownsRow_made wo _ 0 (Nat.le_refl _) (by decide) rfl, HO.out.alloc _, HC.out.alloc HI.out (Nat.le_trans hB HS.out.size) _, (Str.refl wo).alloc _⟩
      case round =>
        obtain ⟨c, hc, rfl, HR, HO2, HI2, HS2⟩ := hrel
        have hBr : B ≤ wo.heap.size := Nat.le_trans hB HS.out.size
        have hBr2 : B ≤ wr.heap.size := Nat.le_trans hBr HS2.out.size
        by_cases hcl : c < m
        · have hen := HC.out.enter
          go_wp2_with fail
          refine (HC.out.call r c _ hlt hcl HI2.out).mono ?_
          rintro e w1 ⟨rfl, hI1, hA1⟩
          have HI1 := Lib.hid hI1
          have HR1 := Lib.hid (Aside.own HR.out hA1 hBr)
          have HO1 := Lib.hid (Aside.own HO2.out hA1 (Nat.le_refl _))
          have HS1 := Lib.hid (HS2.out.trans hA1.str)
          have hBw : B ≤ w1.heap.size := Nat.le_trans hBr HS1.out.size
          have hBo : wo.heap.size ≤ w1.heap.size := HS1.out.size
          clear hI1 hA1 HR HO2 HI2 HS2
          go_wp2_with (at_builtin; refine wpList_append_own _ rfl _ _ 22 rfl wo.heap.size 5 j0 (.int .u8 0) 1 1 Try.underlying22 hj hy0 hy1 hy2 rfl (by decide) _ _ _ rfl (HR1.out.alloc _) ⟨w1.heap.size, 0, none⟩ 1 1 [.int .u8 (f r c).toNat] rfl rfl ?c1 ?c2 ?c3 ?c4 ?c5 ?_)
          case c1 => exact cell_one_new _ _ _
          case c2 => simp [Value.oneCell']
          case c3 => simp only [maxLen]; omega
          case c4 => omega
          case c5 => simp; omega
          intro v' w2 hown2 hgrow2 _
          have HO3 := Lib.hid (own_kept_ne (HO1.out.alloc (.cells #[.int .u8 (f r c).toNat] 5)) (HR1.out.alloc (.cells #[.int .u8 (f r c).toNat] 5)) (by decide) hgrow2)
          have HI3 := Lib.hid (HC.out.grown (HC.out.alloc HI1.out hBw (.cells #[.int .u8 (f r c).toNat] 5)) (by simp; omega) hgrow2 (fun g hg => Nat.le_trans hBr (own_ge HR1.out g hg)))
          have HR3 := Lib.hid hown2
          have HS3 := Lib.hid ((HS1.out.alloc (.cells #[.int .u8 (f r c).toNat] 5)).grown hgrow2)
          clear hown2 hgrow2 HO1 HI1 HR1 HS1
          go_wp2
          go_roundw
          case rel => exact ⟨c + 1, by omega, by go_num, (by rw [rowOf_succ, bv_snoc]; exact HR3.out), HO3.out, HI3.out, HS3.out⟩
          case measure => simp [intOf]; omega
        · have hcm : c = m := by omega
          subst hcm
          obtain ⟨A, c', rfl, hc1, hc2⟩ := own_form HR.out
          have hcv := run_bytes_text (P := Try.prog) wr 22 9 5 Try.underlying22 Try.underlying5 Try.underlying9 A c' _ _ (Rd.of_own HR.out)
          rw [rowOf_length] at hcv
          go_wp2_with (at_builtin; refine wpList_append_own _ rfl _ _ 23 rfl B 9 i0 (.string ⟨#[]⟩) 1 16 Try.underlying23 hi hz0 hz1 hz2 rfl (by decide) _ _ _ rfl (HO2.out.alloc _) ⟨wr.heap.size, 0, none⟩ 1 1 [.string (bs (rowOf c (f r)))] rfl rfl ?c1 ?c2 ?c3 ?c4 ?c5 ?_)
          case c1 => exact cell_one_new _ _ _
          case c2 => simp [Value.oneCell']
          case c3 => simp only [maxLen]; omega
          case c4 => omega
          case c5 => simp; omega
          intro v' w2 hown2 hgrow2 _
          have HI3 := Lib.hid (HC.out.grown (HC.out.alloc HI2.out hBr2 (.cells #[.string (bs (rowOf c (f r)))] 9)) (by simp; omega) hgrow2 (fun g hg => own_ge HO2.out g hg))
          have HO3 := Lib.hid hown2
          have HS3 := Lib.hid ((HS.out.trans HS2.out |>.alloc (.cells #[.string (bs (rowOf c (f r)))] 9)).grown hgrow2)
          clear hown2 hgrow2 HO2 HI2 HR HS2 hcv HO HI HS
          go_wp2
          go_roundw
          case rel => exact ⟨r + 1, by omega, by go_num, (by rw [mkG_succ, sv_snoc]; exact HO3.out), (by rw [Nat.succ_mul]; exact HI3.out), HS3.out⟩
          case measure => simp [intOf]; omega
    · obtain rfl : r = n := by omega
      obtain ⟨A, c, rfl, hc1, hc2⟩ := own_form HO.out
      go_wp2
      go_ret
      exact ⟨A, c, rfl, HO.out, HI.out, HS.out⟩

/-! ### closures that only read -/
def Old (w0 : World) (B : Nat) (_k : Nat) (w : World) : Prop := ∀ b, b < B → w.heap[b]? = w0.heap[b]?
theorem Old.cell {w0 w : World} {B k : Nat} (h : Old w0 B k w) (a : Addr) (ha : a.block < B) : w.cell? a = w0.cell? a := World.cell?_of_block (h a.block ha)
theorem Old.rd {w0 w : World} {B k : Nat} {A : Option Addr} {xs : List Value} (h : Old w0 B k w) (hr : Rd w0 B A xs) : Rd w B A xs := hr.keep fun p hp => h.cell p hp
theorem clo_reads {P : Program} {fid : Nat} {caps : Array Value} {w0 : World} {B n m : Nat} {f : Nat → Nat → UInt8}
    (hen : ∀ (args : Array Value) (w : World), (callFunc fid args).run P w = .ok (.enter fid args) w)
    (h : ∀ (r c : Nat) (w : World), r < n → c < m → Old w0 B 0 w → Calls P fid (#[.int .i64 r, .int .i64 c] ++ caps) w fun e w' => e = .returned (.int .u8 (f r c).toNat) ∧ Dr w w') : Clo P fid caps B (Old w0 B) n m f where
  call := fun r c w hr hc hI => (h r c w hr hc hI).mono fun _ _ ⟨he, hd⟩ => by
    obtain ⟨k, rfl⟩ := hd
    exact ⟨he, hI, rfl, rfl, rfl, rfl, fun _ _ => rfl⟩
  enter := hen
  stay := fun _ _ _ hI hb b hlt => (hb b hlt).trans (hI b hlt)
theorem made_fresh {w : World} {n m : Nat} {g : List ByteArray} {e : Ending} {w' : World} (h : MadeG w.heap.size (Old w w.heap.size) n m g w e w') (hn : g.length = n) : FreshS g w e w' := by
  obtain ⟨A, c, he, ho, hI, hs⟩ := h
  rw [hn.symm] at he ho
  exact ⟨A, c, he, ho, hs.os, hs.tape, hs.output, hs.size, hI⟩
end Go.Proofs.Ythjllnabjnjpmaa
