/- The law FnWay returns true for every code. No condition on the input. -/
import Derived.Test.YtpgjnfleejleoaaXD
import Derived.Test.YtpgjnfleejleoaaBH
import Derived.Test.YtpgjnfleejleoaaEI
namespace Go.Proofs.Ytpgjnfleejleoaa
open Go.ChangeShapes Go.WideShapes Go.ChangeAt Go.RowKit

/-- the way back is the way backwards -/
theorem way_rev {g : List ByteArray} {p : Int} (h : givenB g p = true) : givenB g (endA g p : Nat) = true ∧ wayA g (endA g p : Nat) = (wayA g p).reverse := by
  obtain ⟨k, rfl, hk, hg⟩ := given_nat h
  obtain ⟨he, _⟩ := ends_B hg hk
  have hkp : k < (fld g).ports := by rw [ports_fld]; exact hk
  obtain ⟨h1, h2, h3⟩ := Fd.ends_back (grid_hn hg) (grid_hm hg) hkp he
  rw [endA_yes h]
  have hq : endB (fld g) k < portsN g := by rw [← ports_fld]; exact h1
  have hgv : givenB g (endB (fld g) k : Nat) = true := givenB_iff.2 ⟨hg, by omega, by omega⟩
  obtain ⟨he2, _⟩ := ends_B hg hq
  obtain ⟨e1, _⟩ := Fd.ends_det he2 h3
  refine ⟨hgv, ?_⟩
  rw [wayA_yes hgv, wayA_yes h, e1]
  exact Fd.way_back (grid_hn hg) (grid_hm hg) hkp he

set_option maxHeartbeats 3200000 in
theorem walk_FnWay (w : World) (A : Option Addr) (c : Nat) (l : List UInt8) (hr : Rd w w.heap.size A (bv l)) (hm : l.length ≤ c ∧ l.length ≤ maxLen) :
    Calls Try.prog 14 #[.slice A l.length c] w fun e w' => e = .returned (.bool true) ∧ Below w.heap.size w w' := by
  by_cases hl : 1048576 < l.length
  · go_enter Try.func14, Try.ntmps14
    go_wp2
    go_ret
    exact ⟨rfl, Below.refl _ _⟩
  have hlb : decide ((1048576 : Int) < (l.length : Int)) = false := decide_eq_false (by omega)
  clear hl
  go_enter Try.func14, Try.ntmps14
  go_wp2_with fail
  refine (DrawBeamWay_any l A c _ hr hm).mono ?_
  rintro e w1 ⟨g, A1, c1, p, rfl, hg, hgz, hp, hb, hcp⟩
  obtain ⟨hlo, hhi, hsz⟩ := hgz
  have hgm : g.length ≤ maxLen := by unfold maxLen; omega
  have hgs : ∀ s ∈ g, s.size ≤ maxLen := fun s hs => by have := hsz s hs; unfold maxLen; omega
  clear hr hlb hcp hsz
  have hi := iBeamWay_any A1 c1 g p w1 hg hgm hgs
  have hsS := fun (w : World) (h : Rd w w.heap.size A1 (sv g)) => sBeamWay_any A1 c1 g p w h hgm hgs
  have hLm : (ni (wayA g p)).length ≤ maxLen := by have := len_wayA g p; unfold maxLen; omega
  obtain ⟨L, hL⟩ : ∃ L, wayA g p = L := ⟨_, rfl⟩
  obtain ⟨b, hbB⟩ : ∃ b, givenB g p = b := ⟨_, rfl⟩
  have HK := Lib.hid hL
  have HB := Lib.hid hbB
  rw [hL, hbB] at hi
  simp only [hL, hbB] at hsS
  rw [hL] at hLm
  have HI := Lib.hid hi
  have HS := Lib.hid hsS
  clear hi hsS hL hbB
  go_wp2_with fail
  refine HI.out.mono ?_
  rintro e w2 ⟨A2, c2, rfl, hown, hb2⟩
  have hg2 := hg.later hb2
  have hx2 := Rd.of_own hown
  have hbb2 := below_next hb hb2
  have HS2 := Lib.hid (HS.out _ hg2)
  clear hown HI HS hg hb hb2
  go_wp2_with fail
  refine HS2.out.mono ?_
  rintro e w3 ⟨A3, c3, rfl, hown, hb3⟩
  have hg3 := hg2.later hb3
  have hx3 := hx2.later hb3
  have hy3 := Rd.of_own hown
  have hbb3 := below_next hbb2 hb3
  clear hown HS2 hg2 hx2 hbb2 hb3
  have HT := Lib.hid (sameInts_same A2 A3 c2 c3 (ni L) w3 _ _ hx3 hy3 hLm)
  go_wp2_with fail
  refine HT.out.mono ?_
  rintro e w4 ⟨rfl, hd4⟩
  have hb4 := hd4.below w3.heap.size
  have hg4 := hg3.later hb4
  have hx4 := hx3.later hb4
  have hy4 := hy3.later hb4
  have hbb4 := below_next hbb3 hb4
  clear hb4 HT hg3 hx3 hy3 hbb3 hd4
  cases b
  · have HT := Lib.hid (sameInts_same A2 A3 c2 c3 (ni L) w4 _ _ hx4 hy4 hLm)
    go_wp2_with fail
    refine HT.out.mono ?_
    rintro e w5 ⟨rfl, hd5⟩
    have hbb5 := below_next hbb4 (hd5.below _)
    clear hd5
    go_wp2
    go_ret
    exact ⟨rfl, hbb5⟩
  obtain ⟨g1, g2⟩ := way_rev HB.out
  have hL100 := wayA_len g p
  have HO2 := Lib.hid (way_often (g := g) p)
  have H1 := iBeamEnd_any A1 c1 g p w4 hg4 hgm hgs
  rw [HB.out] at H1
  have h2 := fun (w : World) (k : Rd w w.heap.size A1 (sv g)) => iBeamWay_any A1 c1 g (endA g p : Nat) w k hgm hgs
  rw [g1, g2] at h2
  rw [HK.out] at h2 hL100 HO2
  obtain ⟨q, hq⟩ : ∃ q, endA g p = q := ⟨_, rfl⟩
  rw [hq] at H1 h2
  have H1 := Lib.hid H1
  have H2 := Lib.hid h2
  clear h2 g1 g2 hq hgs
  go_wp2_with fail
  refine H1.out.mono ?_
  rintro e w5 ⟨rfl, hb5⟩
  have hg5 := hg4.later hb5
  have hx5 := hx4.later hb5
  have hbb5 := below_next hbb4 hb5
  have H2 := Lib.hid (H2.out _ hg5)
  clear H1 hb5 hg4 hx4 hy4 hbb4
  go_wp2_with fail
  refine H2.out.mono ?_
  rintro e w6 ⟨A6, c6, rfl, hown, hb6⟩
  have HX := Lib.hid (hx5.later hb6)
  have HY := Lib.hid (Rd.of_own hown)
  have HBB := Lib.hid (below_next hbb5 hb6)
  have hlr : (ni L.reverse).length = L.length := by rw [ni_length, List.length_reverse]
  rw [hlr, ni_length]
  clear hown H2 hb6 hg5 hx5 hbb5 hlr hLm
  have hnn : ((L.length : Int) != (L.length : Int)) = false := by simp
  go_wp2
  go_loopw [13] (fun i wr => ∃ (k : Nat), k ≤ L.length ∧ i = .int .i64 k ∧ Hid (Dr w6 wr)) (fun i _ => L.length - (intOf i).toNat)
  case atStart => exact ⟨0, Nat.zero_le _, rfl, Dr.refl _⟩
  case round =>
    obtain ⟨i, hi, rfl, HD⟩ := hrel
    by_cases hlt : i < L.length
    · obtain ⟨wo, rfl⟩ : ∃ wo : World, wo = wr := ⟨_, rfl⟩
      go_wp2
      go_loopw [14, 15] (fun t k wi => ∃ (j : Nat), j ≤ L.length ∧ k = .int .i64 j ∧ t = .int .i64 (often (L.take j) L[i] : Nat) ∧ Hid (Dr w6 wi)) (fun _ k _ => L.length - (intOf k).toNat)
      case atStart => exact ⟨0, Nat.zero_le _, rfl, rfl, HD.out⟩
      case round =>
        obtain ⟨j, hj, rfl, rfl, HD2⟩ := hrel
        have hle := often_take_le L L[i] j
        obtain ⟨b1, o1, hA1, hb1, x1⟩ := (HX.out.below (HD2.out.below _)).at_ (niv_get L i hlt)
        by_cases hjl : j < L.length
        · have x2 := (HX.out.below (HD2.out.below _))
          rw [hA1] at x2
          have x2 := x2.cell (niv_get L j hjl)
          have HT := Lib.hid (often_take L L[i] j hjl)
          subst hA1
          obtain ⟨y, hy⟩ : ∃ y, L[j] = y := ⟨_, rfl⟩
          rw [hy] at HT x2
          generalize hx : L[i] = x at *
          have HXX := Lib.hid hx
          clear hy hx
          have hii : (i : Int) < (L.length : Int) := by omega
          have hjj : (j : Int) < (L.length : Int) := by omega
          by_cases he : y = x
          · have hbe := int_beq_yes he
            rw [if_pos he] at HT
            clear he
            go_wp2_with fail
            go_quiet (fail)
            go_wp2
            go_roundw
            case rel => exact ⟨j + 1, by omega, by go_num, by rw [HT.out]; go_num, HD2.out.drewN _⟩
            case measure => simp [intOf]; omega
          · have hbe := int_beq_no he
            rw [if_neg he] at HT
            clear he
            go_wp2_with fail
            go_quiet (fail)
            go_wp2
            go_roundw
            case rel => exact ⟨j + 1, by omega, by go_num, by rw [HT.out]; rfl, HD2.out.drewN _⟩
            case measure => simp [intOf]; omega
        · have hfin : often (L.take j) L[i] ≤ 2 := by rw [List.take_of_length_le (by omega)]; exact HO2.out _
          have hrl : L.length - 1 - i < L.reverse.length := by rw [List.length_reverse]; omega
          have hget := niv_get L.reverse (L.length - 1 - i) hrl
          have hrev : L.reverse[L.length - 1 - i] = L[i] := by rw [List.getElem_reverse]; congr 1; omega
          rw [hrev] at hget
          obtain ⟨b3, o3, hA3, hb3, x3⟩ := (HY.out.below (HD2.out.below _)).at_ hget
          subst hA1
          subst hA3
          obtain ⟨z, hz⟩ : ∃ z, L.length - 1 - i = z := ⟨_, rfl⟩
          rw [hz] at x3
          have hzi : (L.length : Int) - 1 - (i : Int) = (z : Int) := by omega
          have hzl : (z : Int) < (L.length : Int) := by omega
          have hii : (i : Int) < (L.length : Int) := by omega
          generalize hoo : often (L.take j) L[i] = oo at *
          have hoi : decide ((2 : Int) < (oo : Int)) = false := decide_eq_false (by omega)
          generalize L[i] = x at *
          have hne : ((x : Int) != (x : Int)) = false := by simp
          clear hrev hget hz hrl hoo
          go_wp2_with fail
          go_quiet (fail)
          go_wp2
          go_roundw
          case rel => exact ⟨i + 1, by omega, by go_num, HD2.out.drewN _⟩
          case measure => simp [intOf]; omega
    · go_wp2
      go_ret
      exact ⟨rfl, below_next HBB.out (HD.out.below _)⟩
set_option maxRecDepth 100000 in
theorem lifted_FnWay (os : Os) (started : os.Started) (H : Type) (enc : TypeId × Value → H) :
    ReturnsInHanded {} Try.checked os 14 .any (Rows.fnWaySpec.pre6 enc Try.prog Try.f14 Rows.fnWayRow.domain false) (Rows.fnWaySpec.post enc Try.prog Try.f14 false true false false) := by
  refine returnsInHanded_of_change (C := Try.checked) own_knob started (by kernel_rfl) Try.func14
    (ChangeSpec.witness6 (enc := enc) (C := Try.checked) false ⟨#[], #[.slice none 0 0], []⟩ 8 (by kernel_rfl) (by kernel_rfl) (by kernel_rfl) (by kernel_rfl)) ?_
  intro W base args ds gs before hval0 hW hcnd _
  have hval : ∀ (j : Nat) t v, Try.f14.params[j]? = some t → args[j]? = some v → Value.okWide Try.prog W .any base t v := hval0
  have hW' := hW
  obtain ⟨p, q, hA0, hV, rfl, hfz, hnd⟩ := hW
  have hA : DataW.TrodAll enc Try.prog W 0 (fun _ => true) true Try.f14.params.toList args.toList ds p := hA0
  rw [Try.params14] at hA hval
  obtain ⟨v0, vs0, d0, ds0, p0, q0, hargs, rfl, rfl, h0, r0⟩ := trodAll_cons hA
  obtain ⟨rfl, rfl, rfl⟩ := trodAll_nil r0
  obtain rfl : args = #[v0] := by cases args; simp_all
  obtain ⟨rfl, rfl⟩ := trodVars_none hV
  clear hA0 hval0
  simp only [List.append_nil] at hW'
  have hlt : ∀ x ∈ (p0 ++ []), x.block < W.heap.size := fun x hx => hW'.lt x (by simpa using hx)
  have hlt0 : ∀ x ∈ p0, x.block < W.heap.size := fun x hx => hlt x (by simp [hx])
  have hag0 : ∀ (W' : World), Below W.heap.size W W' → DataW.Trod enc Try.prog W' 0 (fun b => decide (b < W.heap.size)) true 22 v0 d0 p0 :=
    fun W' hn => Below.trod laid_out rd_B (of_decide_eq_true (by kernel_rfl)) h0 hn hlt0
  obtain ⟨A0, c0, l0, rfl, hr0, hm0⟩ := open_B (hval 0 22 v0 rfl rfl) h0 hlt0
  refine (walk_FnWay W A0 c0 l0 hr0 hm0).mono fun e W' ⟨he, hb⟩ => ?_
  subst he
  exact ⟨_, rfl, _, _, _, [], (p0 ++ []), [], hW', (trodAll_cons_mk (shut_bool Try.underlying4 _) trodAll_mk0), (trodAll_cons_mk (hag0 W' hb) trodAll_mk0), rfl, hb.frame _, fun h => by cases h⟩

theorem over_FnWay : Rows.fnWayRow.holds Try.pinned (OpenSpec.ofChange Rows.fnWaySpec) :=
  OpenClaim.holds_of_wide 14 Try.f14 rfl rfl rfl rfl rfl rfl rfl ⟨rfl, rfl, rfl, rfl, rfl⟩ rfl rfl rfl rfl rfl (by kernel_rfl) Try.func14 (by kernel_rfl)
    (of_decide_eq_true (by kernel_rfl)) (by unfold Func.isWrapper; first | (rw [if_pos (by decide +kernel)]; kernel_rfl) | (rw [if_neg (by decide +kernel)]; exact ⟨rfl, rfl⟩))
    (fun os started H enc _ => lifted_FnWay os started H enc)

theorem holds_FnWay : Rows.FnWaySaid := over_FnWay
#print axioms holds_FnWay
end Go.Proofs.Ytpgjnfleejleoaa
