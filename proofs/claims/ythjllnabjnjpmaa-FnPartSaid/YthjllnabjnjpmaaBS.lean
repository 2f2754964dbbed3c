/-
  CONTRACT: allPaths of the program.
-/
import Derived.Test.YthjllnabjnjpmaaBR
import Derived.Test.YthjllnabjnjpmaaBM
import Derived.StillTailTactics
namespace Go.Proofs.Ythjllnabjnjpmaa
set_option maxRecDepth 100000
open Go.RowKit

theorem infoSteps : (Try.prog.info? 68).map (fun i => (i.zero, i.size, i.bytes)) = some (some (Value.slice none 0 0), 1, 24) := by kernel_rfl
/-- rows of steps, one for each number of a list -/
def StepRows (F : Fd) (w : World) (base : Nat) (xs : List Nat) (vs : List Value) : Prop :=
  vs.length = xs.length ∧ ∀ (i x : Nat), xs[i]? = some x → ∃ b c, vs[i]? = some (Value.slice (some ⟨b, 0, none⟩) (F.per (F.st x)) c) ∧ w.ownsRow base 77 2 (.slice (some ⟨b, 0, none⟩) (F.per (F.st x)) c) (F.per (F.st x)) (stC F (F.st x) (F.per (F.st x)))
theorem StepRows.imp {F : Fd} {w w' : World} {base : Nat} {xs : List Nat} {vs : List Value} (h : StepRows F w base xs vs) (k : ∀ v n ys, w.ownsRow base 77 2 v n ys → w'.ownsRow base 77 2 v n ys) : StepRows F w' base xs vs :=
  ⟨h.1, fun i x hx => let ⟨b, c, h1, h2⟩ := h.2 i x hx; ⟨b, c, h1, k _ _ _ h2⟩⟩
theorem StepRows.snoc {F : Fd} {w : World} {base : Nat} {xs : List Nat} {vs : List Value} (h : StepRows F w base xs vs) {x b c : Nat} (ho : w.ownsRow base 77 2 (.slice (some ⟨b, 0, none⟩) (F.per (F.st x)) c) (F.per (F.st x)) (stC F (F.st x) (F.per (F.st x)))) :
    StepRows F w base (xs ++ [x]) (vs ++ [Value.slice (some ⟨b, 0, none⟩) (F.per (F.st x)) c]) := by
  refine ⟨by simp [h.1], fun i y hy => ?_⟩
  by_cases hi : i < xs.length
  · rw [List.getElem?_append_left hi] at hy
    obtain ⟨b', c', h1, h2⟩ := h.2 i y hy
    exact ⟨b', c', by rw [List.getElem?_append_left (by rw [h.1]; exact hi)]; exact h1, h2⟩
  · have hi2 : i = xs.length := by
      have := (List.getElem?_eq_some_iff.1 hy).1
      simp at this; omega
    subst hi2
    have e : x = y := by simpa using hy
    subst e
    exact ⟨b, c, by rw [← h.1]; simp, ho⟩
theorem StepRows.nil {F : Fd} {w : World} {base : Nat} : StepRows F w base [] [] := ⟨rfl, fun i x hx => by simp at hx⟩
/-- all rounds have come back -/
def PathsPost (F : Fd) (w : World) (e : Ending) (w' : World) : Prop :=
  ∃ M A c vs, e = .returned (.tuple #[.map (some M), .slice A F.leads.length c]) ∧ w'.ownsRow w.heap.size 68 1 (.slice A F.leads.length c) F.leads.length vs ∧ StepRows F w' w.heap.size F.leads vs ∧ Below w.heap.size w w'
theorem StepRows.mono {F : Fd} {w : World} {base base' : Nat} {xs : List Nat} {vs : List Value} (h : StepRows F w base xs vs) (hb : base' ≤ base) : StepRows F w base' xs vs :=
  ⟨h.1, fun i x hx => let ⟨b, c, h1, h2⟩ := h.2 i x hx; ⟨b, c, h1, own_mono h2 hb⟩⟩
theorem endB_lt {g : List ByteArray} (hg : gridB g = true) {p : Nat} (hp : p < portsN g) : endB (fld g) p < portsN g := by
  have h := (Fd.ends_back (grid_hn hg) (grid_hm hg) (by rw [ports_fld]; exact hp) (ends_B hg hp).1).1
  rw [ports_fld] at h; exact h
set_option maxRecDepth 100000 in
set_option maxHeartbeats 6400000 in
theorem allPaths_any (A : Option Addr) (c : Nat) (g : List ByteArray) (w : World) (hr : Rd w w.heap.size A (sv g)) (hg : gridB g = true) :
    Calls Try.prog 47 #[.slice A g.length c] w (PathsPost (fld g) w) := by
  obtain ⟨j0, hji, hy0, hy1, hy2⟩ := info_parts infoSteps
  have hmm := @run_makeMap Try.prog
  have hP := ports_20 hg
  have hM := cells_25 hg
  have hm1 : 1 ≤ (fld g).m := grid_hm hg
  have hn1 : 1 ≤ (fld g).n := grid_hn hg
  have HB := Lib.hid (fun k w hr (hk : k < portsN g) => beam_any A c g k _ _ w hr hg hk (ends_B hg hk).1 (ends_B hg hk).2)
  have HN := Lib.hid (fun k (hk : k < portsN g) => (ends_B hg hk).2)
  have HEB := Lib.hid (fun k (hk : k < portsN g) => endB_lt hg hk)
  have HOK := Lib.hid (fun q (hq : q < portsN g) k (hk : k < lenB (fld g) q + 1) => beam1_ok hg hq hk)
  have HALL := Lib.hid (fun t => beamTo_all hg (t := t))
  have HPM := Lib.hid (fun w B (hr : Rd w B A (sv g)) => portMany_any A c g w B hr hg)
  have HCE := Lib.hid (fun w B (hr : Rd w B A (sv g)) => cells_any A c g w B hr hg)
  have hRF := fun (x : Nat) (hx : x < 4 * cellsN g) (K : Nat) (hK : (fld g).Comes ((fld g).st x) K) (w : World) (hr : Rd w w.heap.size A (sv g)) =>
    roundFrom_any A c g ((fld g).st x) K true w hr hg (Fd.st_ok hm1 hx) (gone_comes hK) (by have := per_100 hg (Fd.st_ok hm1 (show x < 4 * ((fld g).n * (fld g).m) from hx)) hK; omega)
  have HRF := Lib.hid hRF
  have HRV := Lib.hid (fun s (hs : (fld g).Ok s) w (hr : Rd w w.heap.size A (sv g)) => reversed_any A c g s w hr hg hs)
  have HML := Lib.hid (fun x (hx : x < 4 * cellsN g) => Fd.marked_lead (F := fld g) hn1 hm1 (x := x) hx)
  have HST := Lib.hid (fun c (hc : c < cellsN g) d (hd : d < 4) => st_cd hg hc hd)
  have HLEN := Lib.hid (fun s (hs : (fld g).Ok s) K (hK : (fld g).Comes s K) => per_100 hg hs hK)
  have HSM := Lib.hid (show ∀ t, (fld g).Ok t → (fld g).cellN t ≤ 1000 from fun t ht => by have := cell_25 hg ht; omega)
  have HLD := Lib.hid (leadsTo_all (fld g))
  rw [cells_fld] at HLD
  have HR := Lib.hid hr
  clear hr hg hRF hm1 hn1
  generalize portsN g = P at *
  generalize cellsN g = MC at *
  generalize fld g = F at *
  have HM0 := Lib.hid (World.ownsMap_made (H := Unit) w Try.prog 77 (plainElem Try.prog 3))
  have HBM := Lib.hid (below_alloc1 w (.map #[] 0))
  go_enter Try.func47, Try.ntmps47
  go_wp2_with fail
  refine (HPM.out _ _ (HR.out.below HBM.out)).mono ?_
  rintro e w' ⟨rfl, rfl⟩
  go_wp2
  go_loopw [21] (fun i wr => ∃ (p n : Nat) (D : DataW Unit), p ≤ P ∧ n ≤ 101 * p ∧ i = .int .i64 p ∧ Hid (ownsM wr w.heap.size n D) ∧ Hid (Told F D (BeamTo F p)) ∧ Hid (Below w.heap.size w wr)) (fun i _ => P - (intOf i).toNat)
  case atStart => exact ⟨0, 0, _, Nat.zero_le _, Nat.zero_le _, rfl, HM0.out, (told_empty F).imp fun t _ => ⟨fun h => h.elim, fun h => beamTo_zero h⟩, HBM.out⟩
  case round =>
    obtain ⟨p, n, D, hp, hn, rfl, H1, H2, H3⟩ := hrel
    obtain ⟨wo, rfl⟩ : ∃ wo : World, wo = wr := ⟨_, rfl⟩
    have hwl : w.heap.size < wo.heap.size := H1.out.lt
    by_cases hlt : p < P
    · have HBK := Lib.hid (HB.out p wo (HR.out.later H3.out) hlt)
      have hN := HN.out p hlt
      have hE := HEB.out p hlt
      have HOKp := Lib.hid (HOK.out p hlt)
      have HS := Lib.hid (show ∀ t, BeamTo F (p + 1) t ↔ BeamTo F p t ∨ Beam1 F p t from fun t => beamTo_succ)
      have HB1 := Lib.hid (show ∀ t, Beam1 F p t ↔ ∃ k, k < lenB F p + 1 ∧ t = F.go (F.enter p) k from fun t => Iff.rfl)
      generalize endB F p = q at *
      generalize lenB F p = N at *
      generalize F.enter p = S0 at *
      go_wp2_with fail
      refine HBK.out.mono ?_
      rintro e w1 ⟨A1, c1, rfl, ho1, hb1⟩
      have HO1 := Lib.hid ho1
      have HM1 := Lib.hid (H1.out.kept (grown_of_below hb1 none) (by simp))
      have HBB1 := Lib.hid (below_next H3.out hb1)
      clear ho1 hb1 H1 H3 HBK
      go_wp2
      go_loopw [32] (fun i wr => ∃ (k n : Nat) (D : DataW Unit), k ≤ N + 1 ∧ n ≤ 101 * p + k ∧ i = .int .i64 k ∧ Hid (ownsM wr w.heap.size n D) ∧ Hid (Told F D (fun t => BeamTo F p t ∨ ∃ j, j < k ∧ t = F.go S0 j)) ∧
          Hid (wr.ownsRow wo.heap.size 77 2 (.slice A1 (N + 1) c1) (N + 1) (stC F S0 (N + 1))) ∧ Hid (Below w.heap.size w wr)) (fun i _ => N + 1 - (intOf i).toNat)
      case atStart => exact ⟨0, n, D, Nat.zero_le _, by omega, rfl, HM1.out, H2.out.imp fun t _ => ⟨.inl, fun h => h.elim id fun ⟨k, hk, _⟩ => absurd hk (by omega)⟩, HO1.out, HBB1.out⟩
      case round =>
        obtain ⟨k, n, D, hk, hn, rfl, K1, K2, K3, K4⟩ := hrel
        by_cases hkl : k < N + 1
        · obtain ⟨g1, g2⟩ := stC_get F S0 hkl
          have hrr := rd_own2 K3.out
          obtain ⟨b, off, hA1, hbb, x0⟩ := hrr.at_ g1
          subst hA1
          have x1 := hrr.cell g2
          rw [← Nat.add_assoc] at x1
          have hok := HOKp.out k hkl
          have hkey := keyL_of F (F.go S0 k) (HSM.out _ hok) (by have := hok.2.2; omega)
          have HJ := Lib.hid (show ∀ t, (∃ j, j < k + 1 ∧ t = F.go S0 j) ↔ (∃ j, j < k ∧ t = F.go S0 j) ∨ t = F.go S0 k from fun t => ex_lt_succ)
          have HTP := Lib.hid (show ∀ d, Told F (D.put (keyL F (F.go S0 k)) d) (fun s => BeamTo F p s ∨ ∃ j, j < k + 1 ∧ s = F.go S0 j) from fun d => (K2.out.put HSM.out hok d).imp fun s _ => by rw [HJ.out s, or_assoc])
          clear HJ
          have hwz : w.heap.size ≤ wr.heap.size := K4.out.size
          clear hok g1 g2 hrr
          obtain ⟨t, ht⟩ : ∃ t, F.go S0 k = t := ⟨_, rfl⟩
          rw [ht] at hkey HTP x0 x1
          generalize keyL F t = kl at *
          generalize F.cellN t = x at *
          generalize t.d = d at *
          have HKEY := Lib.hid hkey
          clear hkey ht
          rcases Nat.lt_or_ge q p with hmin | hmin
          · have hm2 : (q : Int) < (p : Int) := by omega
            go_wp2_with (at_mapUpdate; refine wpList_mapUpdate_own _ rfl _ _ _ 64 rfl 77 3 stepKeyed Try.underlying64 _ w.heap.size n D rfl (K1.out.alloc _) (by unfold maxLen; omega) _ _ _ rfl rfl HKEY.out _ [] (plainElem_int Try.underlying3 (wf64 _ (by omega) (by omega))) ?_)
            intro w2 hown hgrow
            have HM2 := Lib.hid hown
            have HO2 := Lib.hid (own_far (K3.out.alloc _) hgrow (fun j hj => by injection hj with hj; omega))
            have HB2 := Lib.hid ((K4.out.alloc hwz _).grown hgrow (K4.out.alloc hwz _).size (fun j hj => by cases hj; exact Nat.le_refl _))
            have HT2 := HTP
            clear hown hgrow K1 K2 K3 K4 HTP HKEY
            go_wp2
            go_roundw
            case rel => exact ⟨k + 1, n + 1, _, by omega, by omega, by go_num, HM2.out, HT2.out _, HO2.out, HB2.out⟩
            case measure => simp [intOf]; omega
          · have hm2 : ¬ ((q : Int) < (p : Int)) := by omega
            have hm3 : decide ((q : Int) < (p : Int)) = false := decide_eq_false hm2
            go_wp2_with (at_mapUpdate; refine wpList_mapUpdate_own _ rfl _ _ _ 64 rfl 77 3 stepKeyed Try.underlying64 _ w.heap.size n D rfl (K1.out.alloc _) (by unfold maxLen; omega) _ _ _ rfl rfl HKEY.out _ [] (plainElem_int Try.underlying3 (wf64 _ (by omega) (by omega))) ?_)
            intro w2 hown hgrow
            have HM2 := Lib.hid hown
            have HO2 := Lib.hid (own_far (K3.out.alloc _) hgrow (fun j hj => by injection hj with hj; omega))
            have HB2 := Lib.hid ((K4.out.alloc hwz _).grown hgrow (K4.out.alloc hwz _).size (fun j hj => by cases hj; exact Nat.le_refl _))
            have HT2 := HTP
            clear hown hgrow K1 K2 K3 K4 HTP HKEY
            go_wp2
            go_roundw
            case rel => exact ⟨k + 1, n + 1, _, by omega, by omega, by go_num, HM2.out, HT2.out _, HO2.out, HB2.out⟩
            case measure => simp [intOf]; omega
        · have hkN : k = N + 1 := by omega
          have HT := Lib.hid (K2.out.imp (Q' := BeamTo F (p + 1)) fun t _ => by rw [HS.out, HB1.out, hkN])
          have hn2 : n ≤ 101 * (p + 1) := by omega
          clear hkN
          go_wp2
          go_roundw
          case rel => exact ⟨p + 1, n, D, by omega, hn2, by go_num, K1.out, HT.out, K4.out⟩
          case measure => simp [intOf]; omega
    · have hpP : p = P := by omega
      have HT := Lib.hid (H2.out.imp (Q' := F.Marked 0) fun t _ => by rw [hpP, HALL.out, marked_zero])
      have hn20 : n ≤ 2020 := by omega
      have HO0 := Lib.hid (own_mono (own_empty wo 68) (show w.heap.size + 1 ≤ wo.heap.size from hwl))
      have HM2 := Lib.hid (H1.out.alloc (.cells #[] 68))
      have HB2 := Lib.hid (H3.out.alloc (Nat.le_of_lt hwl) (.cells #[] 68))
      clear hpP H1 H2 H3 HB HN HEB HOK HALL
      go_wp2_with fail
      refine (HCE.out _ _ (HR.out.below HB2.out)).mono ?_
      rintro e w' ⟨rfl, rfl⟩
      go_wp2
      go_loopw [10, 46] (fun v i wr => ∃ (cc n : Nat) (D : DataW Unit) (vs : List Value), cc ≤ MC ∧ n ≤ 2020 + 200 * (4 * cc) ∧ i = .int .i64 cc ∧ Hid (ownsM wr w.heap.size n D) ∧ Hid (Told F D (F.Marked (4 * cc))) ∧ Hid (wr.ownsRow (w.heap.size + 1) 68 1 v (leadsTo F (4 * cc)).length vs) ∧
          Hid (StepRows F wr (w.heap.size + 1) (leadsTo F (4 * cc)) vs) ∧ Hid (Below w.heap.size w wr)) (fun _ i _ => MC - (intOf i).toNat)
      case atStart => exact ⟨0, n, D, [], Nat.zero_le _, by omega, rfl, HM2.out, HT.out, HO0.out, StepRows.nil, HB2.out⟩
      case round =>
        clear HM2 HT HO0 HB2
        obtain ⟨cc, n, D, vs, hcc, hn, rfl, K1, K2, K3, K4, K5⟩ := hrel
        obtain ⟨wc, rfl⟩ : ∃ wc : World, wc = wr := ⟨_, rfl⟩
        by_cases hcl : cc < MC
        · go_wp2
          go_loopw [10, 49] (fun v i wr => ∃ (d n : Nat) (D : DataW Unit) (vs : List Value), d ≤ 4 ∧ n ≤ 2020 + 200 * (4 * cc + d) ∧ i = .int .i64 d ∧ Hid (ownsM wr w.heap.size n D) ∧ Hid (Told F D (F.Marked (4 * cc + d))) ∧ Hid (wr.ownsRow (w.heap.size + 1) 68 1 v (leadsTo F (4 * cc + d)).length vs) ∧
              Hid (StepRows F wr (w.heap.size + 1) (leadsTo F (4 * cc + d)) vs) ∧ Hid (Below w.heap.size w wr)) (fun _ i _ => 4 - (intOf i).toNat)
          case atStart => exact ⟨0, n, D, vs, Nat.zero_le _, by omega, rfl, K1.out, K2.out, K3.out, K4.out, K5.out⟩
          case round =>
            clear K1 K2 K3 K4 K5
            obtain ⟨d, n, D, vs, hd, hn, rfl, L1, L2, L3, L4, L5⟩ := hrel
            obtain ⟨wd, rfl⟩ : ∃ wd : World, wd = wr := ⟨_, rfl⟩
            by_cases hdl : d < 4
            · obtain ⟨hok, hce, hde⟩ := HST.out cc hcl d hdl
              have hx : 4 * cc + d < 4 * MC := by omega
              have hml := HML.out _ hx
              have hkey := keyL_of F (F.st (4 * cc + d)) (HSM.out _ hok) (by omega)
              rw [hce, hde] at hkey
              have htold := L2.out.2 _ hok
              have HKEY := Lib.hid hkey
              clear hkey
              cases hh : Maps.has D (keyL F (F.st (4 * cc + d)))
              · have hlead : F.Lead (4 * cc + d) := hml.2 (fun h => by rw [htold.2 h] at hh; cases hh)
                obtain ⟨K, hK⟩ := hlead.1
                have hK100 := HLEN.out _ hok K hK
                have hper : F.per (F.st (4 * cc + d)) = K := Fd.per_eq hK
                have hRFx := HRF.out _ hx K hK wd (HR.out.later L5.out)
                unfold stV at hRFx
                rw [hce, hde] at hRFx
                have HYES := Lib.hid (show ∀ t, F.Marked (4 * cc + (d + 1)) t ↔ F.Marked (4 * cc + d) t ∨ ∃ k, k < K ∧ (t = F.go (F.st (4 * cc + d)) k ∨ t = F.rev (F.go (F.st (4 * cc + d)) k)) from fun t => marked_yes hlead hK)
                have HLS := Lib.hid (show leadsTo F (4 * cc + (d + 1)) = leadsTo F (4 * cc + d) ++ [4 * cc + d] from leadsTo_yes hlead)
                have HGO := Lib.hid (fun j => Fd.comes_ok hok hK j)
                have HPER := Lib.hid hper
                have HHAS := Lib.hid hh
                have HRFx := Lib.hid hRFx
                have hll := leadsTo_le F (4 * cc + d)
                obtain ⟨Av, cv, rfl, _, _⟩ := own_form L3.out
                have hwd : w.heap.size < wd.heap.size := L1.out.lt
                obtain ⟨S0, hS0⟩ : ∃ S0, F.st (4 * cc + d) = S0 := ⟨_, rfl⟩
                have HS0 := Lib.hid hS0
                rw [hS0] at HYES HGO HPER HRFx HKEY HHAS
                clear hlead hK hper hRFx hh hok hce hde hml htold hS0
                obtain ⟨kl, hkl⟩ : ∃ kl, keyL F S0 = kl := ⟨_, rfl⟩
                rw [hkl] at HKEY HHAS
                clear hkl
                go_wp2_with (at_lookup; refine wpList_lookup_own_ok_int _ rfl _ _ 64 rfl 77 3 .i64 stepKeyed Try.underlying64 Try.underlying3 (zeroInt _) w.heap.size n D rfl L1.out _ _ rfl HKEY.out ?_)
                intro c0 _ _
                rw [HHAS.out]
                go_wp2_with fail
                refine HRFx.out.mono ?_
                rintro e w2 ⟨he1, _, hb2⟩
                obtain ⟨bl, cl, rfl, ho2⟩ := he1 rfl
                have HM2 := Lib.hid (L1.out.kept (grown_of_below hb2 none) (by simp))
                have HOV := Lib.hid (own_keep L3.out hb2)
                have HRW := Lib.hid (L4.out.imp fun v n ys h => own_keep h hb2)
                have HO2 := Lib.hid (own_mono ho2 (show w.heap.size + 1 ≤ wd.heap.size from hwd))
                have HBB := Lib.hid (below_next L5.out hb2)
                clear ho2 hb2 L1 L3 L4 L5 HRFx he1 HHAS HKEY
                go_wp2
                go_loopw [68] (fun i wr => ∃ (k n : Nat) (D : DataW Unit), k ≤ K ∧ n ≤ 2020 + 200 * (4 * cc + d) + 2 * k ∧ i = .int .i64 k ∧ Hid (ownsM wr w.heap.size n D) ∧ Hid (Told F D (fun t => F.Marked (4 * cc + d) t ∨ ∃ j, j < k ∧ (t = F.go S0 j ∨ t = F.rev (F.go S0 j)))) ∧
                    Hid (w2.grownBy wr (some w.heap.size)) ∧ Hid (Below w.heap.size w wr)) (fun i _ => K - (intOf i).toNat)
                case atStart => exact ⟨0, n, D, Nat.zero_le _, by omega, rfl, HM2.out, L2.out.imp fun t _ => ⟨.inl, fun h => h.elim id fun ⟨k, hk, _⟩ => absurd hk (by omega)⟩, World.grownBy.refl _ _, HBB.out⟩
                case round =>
                  obtain ⟨k, n, D, hk, hn, rfl, N1, N2, N3, N4⟩ := hrel
                  have hwz : w.heap.size ≤ wr.heap.size := N4.out.size
                  have hwlt : w.heap.size < wr.heap.size := N1.out.lt
                  by_cases hkl : k < K
                  · have hor := own_far HO2.out N3.out (fun j hj => by injection hj with hj; omega)
                    obtain ⟨g1, g2⟩ := stC_get F S0 hkl
                    have hrr := rd_own2 hor
                    obtain ⟨b, off, hA1, hbb, x0⟩ := hrr.at_ g1
                    obtain ⟨hb1, hb2⟩ : bl = b ∧ 0 = off := by injection hA1 with hA1; injection hA1 with h1 h2; exact ⟨h1, h2⟩
                    have x1 := hrr.cell g2
                    rw [← hb1, ← hb2, Nat.zero_add] at x0
                    rw [Nat.zero_add] at x1
                    have hok := HGO.out k
                    have hokr := Fd.rev_ok hok
                    have hkey := keyL_of F (F.go S0 k) (HSM.out _ hok) (by have := hok.2.2; omega)
                    have hkeyr := keyL_of F (F.rev (F.go S0 k)) (HSM.out _ hokr) (by have := hokr.2.2; omega)
                    have HTP := Lib.hid (show ∀ d1 d2, Told F ((D.put (keyL F (F.go S0 k)) d1).put (keyL F (F.rev (F.go S0 k))) d2) (fun t => F.Marked (4 * cc + d) t ∨ ∃ j, j < k + 1 ∧ (t = F.go S0 j ∨ t = F.rev (F.go S0 j))) from fun d1 d2 =>
                      ((N2.out.put HSM.out hok d1).put HSM.out hokr d2).imp fun s _ => by rw [ex_lt_succ, or_assoc, or_assoc])
                    have hrv := fun w (hr : Rd w w.heap.size A (sv g)) => HRV.out _ hok w hr
                    unfold stV at hrv
                    have HKEY := Lib.hid hkey
                    have HKEYR := Lib.hid hkeyr
                    have HRVK := Lib.hid hrv
                    obtain ⟨kt, hkt⟩ : ∃ kt, keyL F (F.go S0 k) = kt := ⟨_, rfl⟩
                    obtain ⟨kr, hkr⟩ : ∃ kr, keyL F (F.rev (F.go S0 k)) = kr := ⟨_, rfl⟩
                    rw [hkt] at HKEY HTP
                    rw [hkr] at HKEYR HTP
                    clear hok hokr hkey hkeyr hrv hor g1 g2 hrr hA1 hbb hb1 hb2 hkt hkr
                    generalize F.rev (F.go S0 k) = tr at *
                    generalize F.cellN tr = xr at *
                    generalize tr.d = dr at *
                    generalize F.cellN (F.go S0 k) = xt at *
                    generalize (F.go S0 k).d = dt at *
                    obtain ⟨wa, hwa⟩ : ∃ wa : World, wa = wr.alloc (.cells #[.int .i64 (xt : Nat), .int .i64 (dt : Nat)] 77) := ⟨_, rfl⟩
                    have HMA := Lib.hid (show ownsM (World.drew wa) w.heap.size n D by rw [hwa]; exact N1.out.alloc _)
                    have HBA := Lib.hid (show Below w.heap.size w (World.drew wa) by rw [hwa]; exact (N4.out.alloc hwz _).drew)
                    have HGA := Lib.hid (show w2.grownBy (World.drew wa) (some w.heap.size) by rw [hwa]; exact grown_drew (grown_below N3.out (below_alloc1 wr _)))
                    have HKA := Lib.hid (show Blk (World.drew wa) wr.heap.size xt dt by rw [hwa]; exact blk_new wr _ _)
                    have HPA := Lib.hid (HPM.out (World.drew wa) _ (HR.out.below HBA.out))
                    have c0 : wa.cell? ⟨wr.heap.size, 0, none⟩ = some (.int .i64 (xt : Nat)) := HKA.out.c0
                    have c1 : wa.cell? ⟨wr.heap.size, 1, none⟩ = some (.int .i64 (dt : Nat)) := HKA.out.c1
                    have hwrp : IntKind.i64.wrap ((P : Int) + ((leadsTo F (4 * cc + d)).length : Int)) = (P : Int) + ((leadsTo F (4 * cc + d)).length : Int) := IntWalk.i64_in _ (by omega)
                    go_wp2_with fail
                    rw [← hwa]
                    clear hwa N1 N2 N3 N4
                    refine wp_region_still_tail 7 (by kernel_rfl) (by kernel_rfl) ?_
                    simp only [List.take_succ_cons, List.take_zero, List.drop_succ_cons, List.drop_zero]
                    repeat still_step
                    still_call (HPA.out.mono fun _ _ ⟨h1, h2⟩ => ⟨h1, h2.symm⟩)
                    repeat still_step
                    try refine wpStill_nil ?_
                    change wpList _ _ _ _ _ (World.drew wa)
                    go_wp2_with (at_mapUpdate; refine wpList_mapUpdate_own _ rfl _ _ _ 64 rfl 77 3 stepKeyed Try.underlying64 _ w.heap.size n D rfl HMA.out (by unfold maxLen; omega) _ _ _ rfl rfl HKEY.out _ [] (plainElem_int Try.underlying3 (wf64 _ (by omega) (by omega))) ?_)
                    intro w3 hown3 hgrow3
                    have HM3 := Lib.hid hown3
                    have HK3 := Lib.hid (HKA.out.keep hgrow3 (by intro e; injection e with e; omega))
                    have HB3 := Lib.hid (HBA.out.grown hgrow3 HBA.out.size (fun j hj => by cases hj; exact Nat.le_refl _))
                    have HG3 := Lib.hid (grown_trans HGA.out hgrow3)
                    have e0 := HK3.out.c0
                    have e1 := HK3.out.c1
                    have HRV3 := Lib.hid (HRVK.out w3 (HR.out.later HB3.out))
                    clear hown3 hgrow3 HMA HBA HGA HKA HPA c0 c1 HK3
                    go_wp2_with fail
                    refine HRV3.out.mono ?_
                    rintro e w4 ⟨rfl, hb4⟩
                    have HM4 := Lib.hid (HM3.out.kept (grown_of_below hb4 none) (by simp))
                    have HB4 := Lib.hid (below_next HB3.out hb4)
                    have HG4 := Lib.hid (grown_below HG3.out hb4)
                    have HP4 := Lib.hid (HPM.out w4 _ (HR.out.below HB4.out))
                    clear hb4 HM3 HB3 HG3 HRV3 e0 e1
                    go_wp2_with fail
                    refine HP4.out.mono ?_
                    rintro e w' ⟨rfl, rfl⟩
                    go_wp2_with (at_mapUpdate; refine wpList_mapUpdate_own _ rfl _ _ _ 64 rfl 77 3 stepKeyed Try.underlying64 _ w.heap.size (n + 1) _ rfl HM4.out (by unfold maxLen; omega) _ _ _ rfl rfl HKEYR.out _ [] (plainElem_int Try.underlying3 (wf64 _ (by omega) (by omega))) ?_)
                    intro w5 hown5 hgrow5
                    have HM5 := Lib.hid hown5
                    have HB5 := Lib.hid (HB4.out.grown hgrow5 HB4.out.size (fun j hj => by cases hj; exact Nat.le_refl _))
                    have HG5 := Lib.hid (grown_trans HG4.out hgrow5)
                    clear hown5 hgrow5 HM4 HB4 HG4 HP4
                    go_wp2
                    go_roundw
                    case rel => exact ⟨k + 1, n + 1 + 1, _, by omega, by omega, by go_num, HM5.out, HTP.out _ _, HG5.out, HB5.out⟩
                    case measure => simp [intOf]; omega
                  · have hkK : k = K := by omega
                    have HTN := Lib.hid (N2.out.imp (Q' := F.Marked (4 * cc + (d + 1))) fun t _ => by rw [HYES.out, hkK])
                    have HOVN := Lib.hid (own_far HOV.out N3.out (fun j hj => by injection hj with hj; omega))
                    have HRWN := Lib.hid (HRW.out.imp fun v n ys h => own_far h N3.out (fun j hj => by injection hj with hj; omega))
                    have hor := own_far HO2.out N3.out (fun j hj => by injection hj with hj; omega)
                    have hk1 : (leadsTo F (4 * cc + d)).length + 1 ≤ maxLen := by simp only [maxLen]; omega
                    have hk2 : ((leadsTo F (4 * cc + d)).length + 1) * 24 ≤ 140737488355328 := by omega
                    have hwz1 : w.heap.size + 1 ≤ wr.heap.size := N1.out.lt
                    have HLL := Lib.hid (show (leadsTo F (4 * cc + (d + 1))).length = (leadsTo F (4 * cc + d)).length + 1 by rw [HLS.out, List.length_append]; rfl)
                    rw [← HPER.out, ← HS0.out] at hor
                    have HOR := Lib.hid hor
                    clear hor hkK HOV HRW HO2 N2
                    go_wp2_with (at_builtin; refine wpList_append_own _ rfl _ _ 65 rfl (w.heap.size + 1) 68 j0 (.slice none 0 0) 1 24 Try.underlying65 hji hy0 hy1 hy2 rfl (by decide) _ _ _ rfl (HOVN.out.alloc _) ⟨wr.heap.size, 0, none⟩ 1 1 [_] rfl rfl (cell_one_new _ _ _) (by simp [Value.oneCell']) hk1 hk2 (alloc_le hwz1 _) ?_)
                    intro v' w5 hown hgrow _
                    have HPE := Lib.hid (show F.per (F.st (4 * cc + d)) = K by rw [HS0.out, HPER.out])
                    have hrows := (HRWN.out.imp fun v n ys h => own_kept_ne (h.alloc _) (HOVN.out.alloc _) (by decide) hgrow).snoc (own_kept_ne (HOR.out.alloc _) (HOVN.out.alloc _) (by decide) hgrow)
                    rw [HPE.out] at hrows
                    have HRW5 := Lib.hid (show StepRows F w5 (w.heap.size + 1) (leadsTo F (4 * cc + (d + 1))) (vs ++ [.slice (some ⟨bl, 0, none⟩) K cl]) by rw [HLS.out]; exact hrows)
                    have HV5 := Lib.hid (show w5.ownsRow (w.heap.size + 1) 68 1 v' (leadsTo F (4 * cc + (d + 1))).length (vs ++ [.slice (some ⟨bl, 0, none⟩) K cl]) by rw [HLL.out]; exact hown)
                    have HM5 := Lib.hid ((N1.out.alloc (.cells #[.slice (some ⟨bl, 0, none⟩) K cl] 68)).kept hgrow (fun e => by have := own_ge HOVN.out _ e.symm; omega))
                    have HB5 := Lib.hid (below_grown (N4.out.alloc hwz (.cells #[.slice (some ⟨bl, 0, none⟩) K cl] 68)) hgrow (fun g hg => Nat.le_trans (Nat.le_succ _) (own_ge HOVN.out g hg)))
                    have hn5 : n ≤ 2020 + 200 * (4 * cc + (d + 1)) := by omega
                    clear hown hgrow hrows N1 N3 N4 HOVN HRWN HOR
                    go_wp2
                    go_roundw
                    case rel => exact ⟨d + 1, n, D, _, by omega, hn5, by go_num, HM5.out, HTN.out, HV5.out, HRW5.out, HB5.out⟩
                    case measure => simp [intOf]; omega
              · have hnl : ¬ F.Lead (4 * cc + d) := fun h => hml.1 h (htold.1 hh)
                have HHAS := Lib.hid hh
                have HT := Lib.hid (L2.out.imp (Q' := F.Marked (4 * cc + (d + 1))) fun t _ => (marked_no hnl).symm)
                have HL := Lib.hid (show leadsTo F (4 * cc + (d + 1)) = leadsTo F (4 * cc + d) from leadsTo_no hnl)
                clear hnl hh hok hce hde hml htold
                generalize keyL F (F.st (4 * cc + d)) = kl at *
                go_wp2_with (at_lookup; refine wpList_lookup_own_ok_int _ rfl _ _ 64 rfl 77 3 .i64 stepKeyed Try.underlying64 Try.underlying3 (zeroInt _) w.heap.size n D rfl L1.out _ _ rfl HKEY.out ?_)
                intro c0 _ _
                rw [HHAS.out]
                go_wp2
                go_roundw
                case rel => exact ⟨d + 1, n, D, vs, by omega, by omega, by go_num, L1.out, HT.out, by rw [HL.out]; exact L3.out, by rw [HL.out]; exact L4.out, L5.out⟩
                case measure => simp [intOf]; omega
            · have hd4 : d = 4 := by omega
              subst hd4
              go_wp2
              go_roundw
              case rel => exact ⟨cc + 1, n, D, vs, by omega, by omega, by go_num, L1.out, L2.out, L3.out, L4.out, L5.out⟩
              case measure => simp [intOf]; omega
        · have hcM : cc = MC := by omega
          have HF := Lib.hid (show leadsTo F (4 * cc) = F.leads by rw [hcM, HLD.out])
          obtain ⟨A', c', rfl, _, _⟩ := own_form K3.out
          clear hcM
          go_wp2
          go_ret2
          exact ⟨w.heap.size, A', c', vs, by rw [← HF.out]; rfl, by rw [← HF.out]; exact own_mono K3.out (Nat.le_succ _), by rw [← HF.out]; exact K4.out.mono (Nat.le_succ _), K5.out⟩
end Go.Proofs.Ythjllnabjnjpmaa
