/-
  CONTRACTS: put, GridPut of the program; l1Put, GridPut of the reference.
-/
import Derived.Test.YtmbjogjdcghacaaM
import Derived.Test.YtmbjogjdcghacaaQ
import Derived.Lib.ConvBytes
namespace Go.Proofs.Ytmbjogjdcghacaa
open Go.RowKit

def putB (g : List ByteArray) (cell : Int) (t : ByteArray) : Bool := gridB g && inB cell 0 ((cellsN g : Int) - 1) && (t.size == 1) && letterB (t.toList.getD 0 0)
def putR (g : List ByteArray) (cell : Int) (t : ByteArray) : List ByteArray := if putB g cell t then gPut g cell.toNat (t.toList.getD 0 0) else []
theorem putR_no {g : List ByteArray} {cell : Int} {t : ByteArray} (h : putB g cell t = false) : putR g cell t = [] := by unfold putR; rw [h]; rfl
theorem one_byte {t : ByteArray} (h : t.size = 1) : ∃ b, t = ⟨#[b]⟩ := by
  cases t with
  | mk d =>
    cases d with
    | mk l =>
      match l, h with
      | [b], _ => exact ⟨b, rfl⟩
theorem len_gridput (g : List ByteArray) (cell : Int) (t : ByteArray) : (putR g cell t).length ≤ 100 := by
  cases hb : putB g cell t
  · rw [putR_no hb]; exact Nat.zero_le _
  · unfold putR
    rw [hb, if_pos rfl]
    unfold putB at hb
    have h1 := grid_len (Bool.and_eq_true_iff.1 (Bool.and_eq_true_iff.1 (Bool.and_eq_true_iff.1 hb).1).1).1
    unfold gPut
    rw [mkG_length]; omega

def putL (g : List ByteArray) (m cell : Nat) (b : UInt8) (r c : Nat) : UInt8 := if r * m + c = cell then b else cellAt g r c



/-! ### plain: a grid is made of its letters -/
theorem rowOf_getElem (m : Nat) (f : Nat → UInt8) (c : Nat) (h : c < (rowOf m f).length) : (rowOf m f)[c] = f c := by simp [rowOf]
theorem row_self {g : List ByteArray} (hg : gridB g = true) (r : Nat) (hr : r < g.length) : bs (rowOf (width g) (cellAt g r)) = g[r] := by
  apply toList_inj
  rw [bs_toList]
  refine List.ext_getElem (by rw [rowOf_length, toList_length, grid_row hg r hr]) fun c h1 h2 => ?_
  have hc : c < g[r].size := by rw [toList_length] at h2; exact h2
  rw [rowOf_getElem, toList_get _ c hc, cellAt_eq hr hc]
theorem mkG_getElem (n m : Nat) (f : Nat → Nat → UInt8) (r : Nat) (h : r < (mkG n m f).length) : (mkG n m f)[r] = bs (rowOf m (f r)) := by simp [mkG]
theorem grid_self {g : List ByteArray} (hg : gridB g = true) : mkG g.length (width g) (cellAt g) = g := by
  refine List.ext_getElem (by rw [mkG_length]) fun r h1 h2 => ?_
  rw [mkG_getElem, row_self hg r h2]
theorem rc_iff {r c m cell : Nat} (hc : c < m) : r * m + c = cell ↔ r = cell / m ∧ c = cell % m := by
  constructor
  · rintro rfl
    have h0 : 0 < m := by omega
    refine ⟨?_, ?_⟩
    · rw [Nat.mul_comm, Nat.mul_add_div h0, Nat.div_eq_of_lt hc, Nat.add_zero]
    · rw [Nat.mul_comm, Nat.mul_add_mod, Nat.mod_eq_of_lt hc]
  · rintro ⟨rfl, rfl⟩
    rw [Nat.mul_comm]; exact Nat.div_add_mod cell m
theorem put_set {g : List ByteArray} (hg : gridB g = true) (cell : Nat) (b : UInt8) (hil : cell / width g < g.length) :
    gPut g cell b = g.set (cell / width g) (bs ((g[cell / width g].toList).set (cell % width g) b)) := by
  have e : gPut g cell b = mkG g.length (width g) (putL g (width g) cell b) := rfl
  rw [e]
  refine List.ext_getElem (by rw [mkG_length, List.length_set]) fun r h1 h2 => ?_
  have hr : r < g.length := by rw [List.length_set] at h2; exact h2
  rw [mkG_getElem, List.getElem_set]
  split
  · rename_i e
    subst e
    congr 1
    refine List.ext_getElem (by rw [rowOf_length, List.length_set, toList_length, grid_row hg]) fun c h3 h4 => ?_
    have hcw : c < width g := by rw [rowOf_length] at h3; exact h3
    have hcs : c < g[cell / width g].size := by rw [grid_row hg]; exact hcw
    rw [rowOf_getElem, List.getElem_set]
    unfold putL
    split
    · rename_i e
      rw [if_pos ((rc_iff hcw).1 e).2.symm]
    · rename_i e
      rw [if_neg (fun h => e ((rc_iff hcw).2 ⟨rfl, h.symm⟩)), toList_get _ c hcs, cellAt_eq hr hcs]
  · rename_i e
    rw [← row_self hg r hr]
    congr 1
    refine List.ext_getElem (by rw [rowOf_length, rowOf_length]) fun c h3 h4 => ?_
    have hcw : c < width g := by rw [rowOf_length] at h3; exact h3
    rw [rowOf_getElem, rowOf_getElem]
    unfold putL
    rw [if_neg (fun h => e ((rc_iff hcw).1 h).1.symm)]

/-! ### []byte(s), written, and back to a text -/
theorem below_bytes (w : World) (e : TypeId) (s : ByteArray) : Below w.heap.size w (Lib.bytesWorld w e s) :=
  ⟨rfl, rfl, rfl, by rw [Lib.bytesWorld_size]; omega, fun k hk => Lib.bytesWorld_at_old w e s k hk⟩
theorem conv_text {P : Program} (w : World) (src dst e : TypeId) (s : ByteArray) {u : TypeDesc} (hs : P.underlying src = some u) (hd : P.underlying dst = some (.slice e)) (he : P.underlying e = some (.int .u8)) :
    ∃ (w3 : World) (cap : Nat) (cs : Array Value), (convert src dst (.string s)).run P w = .ok (.slice (some ⟨w.heap.size, 0, none⟩) s.size cap) w3 ∧ Below w.heap.size w w3 ∧
      w3.heap[w.heap.size]? = some (.cells cs e (cs.size, cs.size + 1)) ∧ s.size ≤ cs.size ∧ ∀ j (hj : j < s.size), cs[j]? = some (.int .u8 s[j].toNat) := by
  refine ⟨_, _, Lib.bytesCells w e s, Lib.run_convert_string_bytes w src dst e s hs hd he, below_bytes w e s, Lib.bytesWorld_at_new w e s, ?_, fun j hj => ?_⟩
  · have : s.data.size = s.size := rfl
    simp [Lib.bytesCells, this]
  · have hj' : j < s.data.size := hj
    unfold Lib.bytesCells
    rw [Array.getElem?_append_left (by simpa using hj')]
    simp
    exact ⟨s.data[j], Array.getElem?_eq_getElem hj', rfl⟩
theorem own_shape {w : World} {base e n : Nat} {v : Value} {xs : List Value} (h : w.ownsRow base e 1 v n xs) (hn : 0 < n) : ∃ gb cap, v = .slice (some ⟨gb, 0, none⟩) n cap ∧ base ≤ gb ∧ gb < w.heap.size := by
  rcases h.2 with ⟨_, h0⟩ | ⟨g, cap, cur, rfl, hb, hg, _⟩
  · omega
  · exact ⟨g, cap, rfl, hb, (Array.getElem?_eq_some_iff.1 hg).1⟩
theorem own_frozen {w : World} {base e n gb c : Nat} {xs : List Value} (h : w.ownsRow base e 1 (.slice (some ⟨gb, 0, none⟩) n c) n xs) (i : Nat) : w.frozen? ⟨gb, i, none⟩ = false := by
  rcases h.2 with ⟨hv, _⟩ | ⟨g, cap, cur, hv, _, hg, _⟩
  · cases hv
  · injection hv with h1 _ _
    injection h1 with h1
    injection h1 with h1 _ _
    subst h1
    exact row_frozen hg i
theorem own_aside {w : World} {base e size n : Nat} {v : Value} {xs : List Value} (h : w.ownsRow base e size v n xs) (a : Addr) (u : Value) (hne : v.ownBlock ≠ some a.block) : (w.setCell a u).ownsRow base e size v n xs := by
  refine ⟨h.1, ?_⟩
  rcases h.2 with hn | ⟨g, cap, cur, hv, hb, hg, r⟩
  · exact .inl hn
  · subst hv
    refine .inr ⟨g, cap, cur, rfl, hb, ?_, r⟩
    rw [Below.heap_setCell _ _ _ _ (fun e => hne (by rw [e]; rfl))]
    exact hg
theorem row_set_fr {w : World} {g e : Nat} {cs : Array Value} {fr : Nat × Nat} (h : w.heap[g]? = some (.cells cs e fr)) (k : Nat) (v : Value) :
    (w.setCell ⟨g, k, none⟩ v).heap[g]? = some (.cells (cs.setIfInBounds k v) e fr) := by
  simp [World.setCell, Array.getElem?_modify, h]
theorem own_set {w : World} {base e n gb c i : Nat} {xs : List Value} {v : Value} (h : w.ownsRow base e 1 (.slice (some ⟨gb, 0, none⟩) n c) n xs) (_hi : i < n) :
    (w.setCell ⟨gb, i, none⟩ v).ownsRow base e 1 (.slice (some ⟨gb, 0, none⟩) n c) n (xs.set i v) := by
  refine ⟨by rw [List.length_set]; exact h.1, ?_⟩
  rcases h.2 with ⟨hv, _⟩ | ⟨g, cap, cur, hv, hbg, hg, hnc, hm, hcs, htake⟩
  · cases hv
  · injection hv with h1 _ h3
    injection h1 with h1
    injection h1 with h1 _ _
    subst h1; subst h3
    refine .inr ⟨gb, c, cur.setIfInBounds i v, rfl, hbg, row_set hg i v, hnc, hm, by simpa using hcs, ?_⟩
    rw [Array.toList_setIfInBounds, List.take_set, htake]

theorem wrap_div' (q s : Nat) (h : q ≤ 1000000) : IntKind.i64.wrap ((q / s : Nat) : Int) = ((q / s : Nat) : Int) := IntWalk.i64_in _ (by
  have hx : q / s ≤ q := Nat.div_le_self _ _
  generalize q / s = x at *
  omega)

end Go.Proofs.Ytmbjogjdcghacaa
