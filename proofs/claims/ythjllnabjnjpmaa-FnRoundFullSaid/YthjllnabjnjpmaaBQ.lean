/-
  CONTRACTS: the library's sort of numbers; RoundLengths of the program.
-/
import Derived.Test.YthjllnabjnjpmaaBT
import Derived.Shelf.Lays
import Derived.Shelf.Sort.AssemblyIn
import Derived.Sort.EveryDepth
import Derived.Lib.SortBridge
import Derived.Lib.LazyBuf
namespace Go.Proofs
open Go.Shelf
def Try.laysSort_ren : Go.Shelf.Ren := ⟨fun | 189 => 48 | 125 => 63 | 257 => 62 | 128 => 82 | 129 => 83 | 294 => 73 | 295 => 74 | 296 => 75 | 297 => 76 | 298 => 77 | 299 => 78 | 216 => 79 | 300 => 80 | 301 => 81 | 328 => 85 | 329 => 86 | 330 => 87 | 331 => 88 | 332 => 89 | 215 => 90 | 343 => 91 | n => n, fun | 28 => 36 | 3 => 3 | 46 => 88 | 0 => 0 | 51 => 107 | 53 => 109 | 4 => 4 | 183 => 101 | 182 => 100 | 131 => 42 | 5 => 5 | 9 => 9 | 218 => 112 | 222 => 116 | 228 => 119 | 229 => 33 | n => n, fun | n => n⟩
theorem Try.laysSort : Go.Proofs.Lays.n189 Try.prog Try.laysSort_ren := {
  mixed := by kernel_rfl
  f125 := Try.func63.trans (congrArg some (by kernel_rfl))
  f128 := Try.func82.trans (congrArg some (by kernel_rfl))
  f129 := Try.func83.trans (congrArg some (by kernel_rfl))
  f189 := Try.func48.trans (congrArg some (by kernel_rfl))
  f215 := Try.func90.trans (congrArg some (by kernel_rfl))
  f216 := Try.func79.trans (congrArg some (by kernel_rfl))
  f257 := Try.func62.trans (congrArg some (by kernel_rfl))
  f294 := Try.func73.trans (congrArg some (by kernel_rfl))
  f295 := Try.func74.trans (congrArg some (by kernel_rfl))
  f296 := Try.func75.trans (congrArg some (by kernel_rfl))
  f297 := Try.func76.trans (congrArg some (by kernel_rfl))
  f298 := Try.func77.trans (congrArg some (by kernel_rfl))
  f299 := Try.func78.trans (congrArg some (by kernel_rfl))
  f300 := Try.func80.trans (congrArg some (by kernel_rfl))
  f301 := Try.func81.trans (congrArg some (by kernel_rfl))
  f328 := Try.func85.trans (congrArg some (by kernel_rfl))
  f329 := Try.func86.trans (congrArg some (by kernel_rfl))
  f330 := Try.func87.trans (congrArg some (by kernel_rfl))
  f331 := Try.func88.trans (congrArg some (by kernel_rfl))
  f332 := Try.func89.trans (congrArg some (by kernel_rfl))
  f343 := Try.func91.trans (congrArg some (by kernel_rfl))
  t0 := Try.underlying0
  a0 := Try.isAgg0
  z0 := Try.sizeOf0
  v0 := Try.zeroValue0
  t3 := Try.underlying3
  a3 := Try.isAgg3
  z3 := Try.sizeOf3
  v3 := Try.zeroValue3
  t4 := Try.underlying4
  a4 := Try.isAgg4
  z4 := Try.sizeOf4
  v4 := Try.zeroValue4
  t5 := Try.underlying5
  a5 := Try.isAgg5
  z5 := Try.sizeOf5
  v5 := Try.zeroValue5
  t9 := Try.underlying9
  a9 := Try.isAgg9
  z9 := Try.sizeOf9
  v9 := Try.zeroValue9
  t28 := Try.underlying36
  a28 := Try.isAgg36
  z28 := Try.sizeOf36
  v28 := Try.zeroValue36
  t46 := Try.underlying88
  a46 := Try.isAgg88
  z46 := Try.sizeOf88
  v46 := Try.zeroValue88
  t51 := Try.underlying107
  a51 := Try.isAgg107
  z51 := Try.sizeOf107
  v51 := Try.zeroValue107
  t53 := Try.underlying109
  a53 := Try.isAgg109
  z53 := Try.sizeOf109
  v53 := Try.zeroValue109
  t131 := Try.underlying42
  a131 := Try.isAgg42
  z131 := Try.sizeOf42
  v131 := Try.zeroValue42
  t182 := Try.underlying100
  a182 := Try.isAgg100
  z182 := Try.sizeOf100
  v182 := Try.zeroValue100
  t183 := Try.underlying101
  a183 := Try.isAgg101
  z183 := Try.sizeOf101
  v183 := Try.zeroValue101
  t218 := Try.underlying112
  a218 := Try.isAgg112
  z218 := Try.sizeOf112
  v218 := Try.zeroValue112
  t222 := Try.underlying116
  a222 := Try.isAgg116
  z222 := Try.sizeOf116
  v222 := Try.zeroValue116
  t228 := Try.underlying119
  a228 := Try.isAgg119
  z228 := Try.sizeOf119
  v228 := Try.zeroValue119
  t229 := Try.underlying33
  a229 := Try.isAgg33
  z229 := Try.sizeOf33
  v229 := Try.zeroValue33 }
end Go.Proofs
namespace Go.Proofs.Ythjllnabjnjpmaa
set_option maxRecDepth 100000
open Go.RowKit

theorem below_grow {B : Nat} {a w : World} (h : Below B a w) (hB : B ≤ w.heap.size) (os : Array Obj) : Below B a (Go.Sort.grow w os) :=
  ⟨h.os, h.tape, h.output, Nat.le_trans h.size (by simp), fun k hk => (Go.Sort.heap_grow_old w os (by omega)).trans (h.block k hk)⟩
theorem perm_nat {l : List Nat} {zs : List Int} (h : zs.Perm (ni l)) : ∃ l' : List Nat, zs = ni l' ∧ l'.Perm l := by
  refine ⟨zs.map Int.toNat, ?_, ?_⟩
  · unfold ni
    rw [List.map_map]
    have : ∀ x ∈ zs, ((fun x : Nat => (x : Int)) ∘ Int.toNat) x = x := fun x hx => by
      obtain ⟨y, _, rfl⟩ := List.mem_map.1 (h.mem_iff.1 hx)
      rfl
    rw [List.map_congr_left this]; simp
  · have h2 := h.map Int.toNat
    unfold ni at h2
    rw [List.map_map] at h2
    have : (Int.toNat ∘ fun x : Nat => (x : Int)) = id := funext fun x => rfl
    rw [this, List.map_id] at h2
    exact h2
set_option maxHeartbeats 800000 in
theorem sort_any (b c base : Nat) (l : List Nat) (w : World) (ho : w.ownsRow base 3 1 (.slice (some ⟨b, 0, none⟩) l.length c) l.length (iv (ni l))) (hl : l.length ≤ 1000) :
    Calls Try.prog 48 #[.slice (some ⟨b, 0, none⟩) l.length c] w fun e w' => e = .returned (.tuple #[]) ∧ ∃ l' : List Nat, l'.Perm l ∧ Rd w' w'.heap.size (some ⟨b, 0, none⟩) (iv (ni l')) ∧ Below base w w' := by
  obtain ⟨cur, hbase, hheap⟩ : ∃ cur, base ≤ b ∧ w.heap[b]? = some (.cells cur 3 (0, 0)) := by
    rcases ho.2 with ⟨hv, _⟩ | ⟨g, cap, cur, hv, hb, hg, _⟩
    · cases hv
    · injection hv with hA; injection hA with hA; injection hA with hA
      exact ⟨cur, by rw [hA]; exact hb, by rw [hA]; exact hg⟩
  have hb : b < w.heap.size := (Array.getElem?_eq_some_iff.1 hheap).1
  have hR := Rd.of_own ho
  have hlen : (ni l).length = l.length := ni_length l
  have hc : ∀ j, j < (ni l).length → w.cell? ⟨b, 0 + j, none⟩ = some (.int .i64 ((ni l).getD j 0)) := fun j hj => by
    have h1 := hR.cell (iv_get (ni l) j hj)
    rw [h1, List.getD_eq_getElem?_getD, List.getElem?_eq_getElem hj]; rfl
  have hH := Lib.holds_of_ints (n := (ni l).length) (Nat.le_refl _) hc (fun j _ => row_frozen hheap (0 + j))
  rw [List.take_length] at hH
  have hs := calls_of_every_depth fun D => AnyS.slices_Sort_int_in Try.laysSort D b 0 c (ni l) w hH hb (by rw [hlen]; omega)
  rw [hlen] at hs
  refine hs.mono ?_
  rintro e w' ⟨he, q, os, hw⟩
  refine ⟨he, ?_⟩
  have hperm := List.mergeSort_perm (ni l) fun x y => decide (x ≤ y)
  generalize ((ni l).mergeSort fun x y => decide (x ≤ y)) = ys at hw hperm
  obtain ⟨l', rfl, hp⟩ := perm_nat hperm
  have hyl : (ni l').length = (ni l).length := hperm.length_eq
  rw [Lib.sorted_world _ w b 0 q _ (ni l') os hH (by simpa using hyl)] at hw
  subst hw
  have hbs : Below base w ((w.drewN q).setCells b 0 ((ni l').map (Value.int .i64))) := Go.below_setCells hbase _ _ _ (below_drewN w q base)
  have hbz := hbs.size
  refine ⟨l', hp, ?_, below_grow hbs (by omega) os⟩
  have hcells := Lib.cells_sorted_ints (q := q) (os := os) (n := (ni l).length) (Nat.le_refl _) hyl hc
  intro _
  refine ⟨b, 0, rfl, by rw [Go.Sort.size_grow]; omega, fun i u hu => ?_⟩
  have hi : i < (ni l').length := by
    have := (List.getElem?_eq_some_iff.1 hu).1
    rw [iv_length] at this; exact this
  have h1 := hcells i (by rw [List.length_append]; omega)
  rw [h1, List.drop_length, List.append_nil, List.getD_eq_getElem?_getD, List.getElem?_eq_getElem hi]
  rw [iv_get _ i hi] at hu
  rw [← hu]; rfl
theorem own_some1 {w : World} {base e n : Nat} {v : Value} {xs : List Value} (h : w.ownsRow base e 1 v n xs) (hn : 0 < n) : ∃ b c, v = .slice (some ⟨b, 0, none⟩) n c := by
  rcases h.2 with ⟨_, h0⟩ | ⟨g, cap, cur, rfl, _⟩
  · omega
  · exact ⟨g, cap, rfl⟩
/-- the lengths of the rounds that some numbers lead -/
noncomputable def lensOf (F : Fd) (xs : List Nat) : List Nat := xs.map fun x => F.per (F.st x)
theorem lensOf_length (F : Fd) (xs : List Nat) : (lensOf F xs).length = xs.length := by simp [lensOf]
theorem lensOf_snoc (F : Fd) (xs : List Nat) (x : Nat) : iv (ni (lensOf F (xs ++ [x]))) = iv (ni (lensOf F xs)) ++ [.int .i64 (F.per (F.st x) : Nat)] := by simp [lensOf, iv, ni]
set_option maxHeartbeats 1600000 in
theorem iRoundLengths_yes (A : Option Addr) (c : Nat) (g : List ByteArray) (w : World) (hr : Rd w w.heap.size A (sv g)) (hg : gridB g = true) (hm : g.length ≤ maxLen) (hs : ∀ s ∈ g, s.size ≤ maxLen) :
    Calls Try.prog 18 #[.slice A g.length c] w fun e w' => ∃ A' c', ∃ l' : List Nat, e = .returned (.tuple #[.slice A' l'.length c', .bool true]) ∧ l'.Perm (fld g).lens ∧ Rd w' w'.heap.size A' (iv (ni l')) ∧ Below w.heap.size w w' := by
  obtain ⟨j0, hji, hy0, hy1, hy2⟩ := info_parts infoInt
  have hG := iGridIn_any A c g _ _ (hr.below (below_alloc1 w (.cells #[] 3))) hm hs
  rw [hg] at hG
  have HG := Lib.hid hG
  have HP := Lib.hid (allPaths_any A c g _ (hr.later (below_alloc1 w (.cells #[] 3))) hg)
  have hL := leads_100 hg
  have hm1 : 1 ≤ (fld g).m := grid_hm hg
  have HOK := Lib.hid (fun x (hx : x ∈ (fld g).leads) => show (fld g).per ((fld g).st x) ≤ 100 from by
    obtain ⟨h1, h2⟩ := Fd.mem_leads.1 hx
    exact per_100 hg (Fd.st_ok hm1 h1) (Fd.per_comes h2.1))
  have HLL := Lib.hid (show lensOf (fld g) (fld g).leads = (fld g).lens from rfl)
  have HO0 := Lib.hid (own_empty w 3)
  have HB0 := Lib.hid (below_alloc1 w (.cells #[] 3))
  clear hG hg hr hm hs hm1
  generalize fld g = F at *
  go_enter Try.func18, Try.ntmps18
  go_wp2_with fail
  refine HG.out.mono ?_
  rintro e w' ⟨rfl, rfl⟩
  go_wp2_with fail
  refine HP.out.mono ?_
  rintro e w1 ⟨M1, A1, c1, vs, rfl, ho1, hrows, hb1⟩
  have HO1 := Lib.hid ho1
  have HRO := Lib.hid hrows
  have HV1 := Lib.hid (own_keep HO0.out hb1)
  have HB1 := Lib.hid (below_next HB0.out hb1)
  clear ho1 hrows hb1 HO0 HB0 HP HG
  generalize hLL : F.leads = LL at *
  clear hLL
  go_wp2
  go_loopw [4, 21] (fun v i wr => ∃ (k : Nat), k ≤ LL.length ∧ i = .int .i64 k ∧ Hid (wr.ownsRow w.heap.size 3 1 v k (iv (ni (lensOf F (LL.take k))))) ∧ Hid (∃ b c, v = .slice (some ⟨b, 0, none⟩) k c) ∧
      Hid (wr.ownsRow (w.alloc (.cells #[] 3)).heap.size 68 1 (.slice A1 LL.length c1) LL.length vs) ∧ Hid (Below w.heap.size w wr)) (fun _ i _ => LL.length - (intOf i).toNat)
  case atStart => exact ⟨0, Nat.zero_le _, rfl, HV1.out, ⟨_, _, rfl⟩, HO1.out, HB1.out⟩
  case round =>
    obtain ⟨k, hk, rfl, H1, H2, H3, H4⟩ := hrel
    have hwz : w.heap.size ≤ wr.heap.size := H4.out.size
    by_cases hlt : k < LL.length
    · obtain ⟨bl, cl, hvs, _⟩ := HRO.out.2 k LL[k] (List.getElem?_eq_getElem hlt)
      have hper := HOK.out LL[k] (List.getElem_mem hlt)
      obtain ⟨b1, o1, hA1, hbb1, x0⟩ := (Rd.of_own H3.out).at_ hvs
      subst hA1
      have HON := Lib.hid (show iv (ni (lensOf F (LL.take (k + 1)))) = iv (ni (lensOf F (LL.take k))) ++ [.int .i64 (F.per (F.st LL[k]) : Nat)] by rw [List.take_succ_eq_append_getElem hlt, lensOf_snoc])
      obtain ⟨K, hK⟩ : ∃ K, F.per (F.st LL[k]) = K := ⟨_, rfl⟩
      rw [hK] at hper x0 HON
      have hk1 : k + 1 ≤ maxLen := by simp only [maxLen]; omega
      have hk2 : (k + 1) * 8 ≤ 140737488355328 := by omega
      clear hK hvs H2
      go_wp2_with (at_builtin; refine wpList_append_own _ rfl _ _ 36 rfl w.heap.size 3 j0 (.int .i64 0) 1 8 Try.underlying36 hji hy0 hy1 hy2 rfl (by decide) _ _ _ rfl (H1.out.alloc _) ⟨wr.heap.size, 0, none⟩ 1 1 [_] rfl rfl (cell_one_new _ _ _) (int_one _ _) hk1 hk2 (alloc_le hwz _) ?_)
      intro v' w2 hown2 hgrow2 _
      have HC2 := Lib.hid (show w2.ownsRow w.heap.size 3 1 v' (k + 1) (iv (ni (lensOf F (LL.take (k + 1))))) by rw [HON.out]; exact hown2)
      have HS2 := Lib.hid (own_some1 hown2 (Nat.succ_pos k))
      have HR2 := Lib.hid (own_kept_ne (H3.out.alloc (.cells #[.int .i64 (K : Int)] 3)) (H1.out.alloc (.cells #[.int .i64 (K : Int)] 3)) (by decide) hgrow2)
      have HB2 := Lib.hid (below_grown (H4.out.alloc hwz (.cells #[.int .i64 (K : Int)] 3)) hgrow2 (fun g hg => own_ge H1.out g hg))
      clear hown2 hgrow2 H1 H3 H4
      go_wp2
      go_roundw
      case rel => exact ⟨k + 1, by omega, by go_num, HC2.out, HS2.out, HR2.out, HB2.out⟩
      case measure => simp [intOf]; omega
    · have hkl : k = LL.length := by omega
      obtain ⟨bo, co, rfl⟩ := H2.out
      have ho := H1.out
      rw [List.take_of_length_le (by omega), HLL.out] at ho
      have hln : F.lens.length = k := by rw [← HLL.out, lensOf_length, hkl]
      rw [← hln] at ho
      have hso := sort_any bo co w.heap.size F.lens wr ho (by omega)
      rw [hln] at hso
      have HSO := Lib.hid hso
      have HLN := Lib.hid hln
      clear hso ho hkl hln H3
      go_wp2_with fail
      refine HSO.out.mono ?_
      rintro e w2 ⟨rfl, l', hp, hr2, hb2⟩
      have hll := hp.length_eq
      have HR2 := Lib.hid hr2
      have HPP := Lib.hid hp
      have HL2 := Lib.hid (show l'.length = k by rw [hll, HLN.out])
      have HB2 := Lib.hid (H4.out.trans hb2)
      clear hr2 hp hll hb2 H4 H1
      go_wp2
      go_ret2
      exact ⟨_, co, l', by rw [HL2.out]; rfl, HPP.out, HR2.out, HB2.out⟩
end Go.Proofs.Ythjllnabjnjpmaa
