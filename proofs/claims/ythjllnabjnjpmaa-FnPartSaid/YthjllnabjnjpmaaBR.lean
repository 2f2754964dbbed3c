/-
  STEPS AS KEYS OF A MAP: what a map of steps tells.
-/
import Derived.Test.YthjllnabjnjpmaaBN
import Derived.Maps.Own
import Derived.Maps.OwnOps
import Derived.Maps.OwnSet
import Derived.DeepKeys4
namespace Go.Proofs.Ythjllnabjnjpmaa
set_option maxRecDepth 100000
open Go.RowKit Go.Maps Go.WideMaps

theorem stepLaid : laidOutB Try.prog = true := by kernel_rfl
set_option maxRecDepth 100000 in
theorem stepRow : (77 : TypeId) < Try.prog.types.size := of_decide_eq_true (by kernel_rfl)
theorem stepWide : (match Try.prog.underlying 77 with | some (.array _ _) | some (.struct _) => true | _ => false) = true := by rw [Try.underlying77]
set_option maxRecDepth 100000 in
theorem stepKeyed : Keyed Try.prog 77 := Keyed.of_law (deep_law_laid stepLaid (m := 2) (by omega) stepRow (by kernel_rfl) stepWide)
theorem stepKeyT : Try.prog.keyType 77 = true := by kernel_rfl
theorem stepCells : Try.prog.cellsOf 77 = 2 := by kernel_rfl
theorem intCells : Try.prog.cellsOf 3 = 1 := by kernel_rfl
theorem typesSucc : ∃ m, Try.prog.types.size = m + 1 := ⟨Try.prog.types.size - 1, by kernel_rfl⟩
theorem wf64 (a : Int) (h1 : -9223372036854775808 ≤ a) (h2 : a ≤ 9223372036854775807) : (Lit.int .i64 a).wf = true := WalkArith.wf_i64 ⟨h1, h2⟩
theorem keyOf_step {a b : Int} (wa : (Lit.int .i64 a).wf = true) (wb : (Lit.int .i64 b).wf = true) :
    keyOf Try.prog 77 (.agg #[.int .i64 a, .int .i64 b]) = some (.string (keyBytes [.int .i64 a, .int .i64 b])) := by
  obtain ⟨m, hm⟩ := typesSucc
  have hu := Try.underlying77
  have hi := Try.underlying3
  unfold keyOf
  simp only [hu]
  rw [if_pos (by simp [stepKeyT, Value.formed, hu, stepCells]), hm]
  unfold Program.keyLits
  simp only [hu, Value.cells]
  rw [if_pos ⟨by rw [stepCells]; rfl, by kernel_rfl⟩]
  simp [Program.keyLits, hi, wa, wb, intCells]
theorem zeroInt (w : World) : (zeroValue 3).run Try.prog w = .ok (.int .i64 0) w := by kernel_rfl
/-- the key of a step -/
def keyL (F : Fd) (t : St) : Lit := .string (keyBytes [.int .i64 (F.cellN t : Nat), .int .i64 (t.d : Nat)])
theorem keyL_of (F : Fd) (t : St) (h1 : F.cellN t ≤ 1000) (h2 : t.d ≤ 1000) : keyOf Try.prog 77 (.agg #[.int .i64 (F.cellN t : Nat), .int .i64 (t.d : Nat)]) = some (keyL F t) :=
  keyOf_step (wf64 _ (by omega) (by omega)) (wf64 _ (by omega) (by omega))
set_option maxRecDepth 100000 in
theorem keyL_inj {F : Fd} {s t : St} (hs : F.Ok s) (ht : F.Ok t) (h1 : F.cellN s ≤ 1000) (h2 : F.cellN t ≤ 1000) (h : keyL F s = keyL F t) : s = t := by
  have d1 := hs.2.2
  have d2 := ht.2.2
  have e1 := keyL_of F s h1 (by omega)
  have e2 := keyL_of F t h2 (by omega)
  rw [h] at e1
  have e := stepKeyed.inj e1 e2
  injection e with e
  have e3 : ((F.cellN s : Nat) : Int) = (F.cellN t : Nat) := by
    have := congrArg (fun a : Array Value => a[0]?) e
    simp at this; omega
  have e4 : ((s.d : Nat) : Int) = (t.d : Nat) := by
    have := congrArg (fun a : Array Value => a[1]?) e
    simp at this; omega
  exact Fd.code_inj hs ht (by unfold Fd.code; unfold Fd.cellN at e3; omega)
theorem keyL_isKey (F : Fd) (t : St) : WideAt.IsKeyLit (keyL F t) := trivial
/-- the map tells of each step whether Q holds -/
def Told (F : Fd) (D : DataW Unit) (Q : St → Prop) : Prop := IsMap D ∧ ∀ t, F.Ok t → (Maps.has D (keyL F t) = true ↔ Q t)
theorem told_empty (F : Fd) : Told F (.map []) fun _ => False := ⟨isMap_empty, fun t _ => ⟨fun h => by simp [Maps.has] at h, fun h => h.elim⟩⟩
theorem Told.put {F : Fd} {D : DataW Unit} {Q : St → Prop} (h : Told F D Q) (hsmall : ∀ t, F.Ok t → F.cellN t ≤ 1000) {s : St} (hs : F.Ok s) (d : DataW Unit) : Told F (D.put (keyL F s) d) fun t => Q t ∨ t = s := by
  refine ⟨h.1.put _ _, fun t ht => ?_⟩
  by_cases e : t = s
  · subst e
    rw [has_put_same h.1 (keyL_isKey F t)]
    exact ⟨fun _ => .inr rfl, fun _ => rfl⟩
  · have hne : keyL F t ≠ keyL F s := fun he => e (keyL_inj ht hs (hsmall t ht) (hsmall s hs) he)
    rw [has_put_other hne, h.2 t ht]
    exact ⟨.inl, fun h => h.elim id fun h => absurd h e⟩
theorem Told.imp {F : Fd} {D : DataW Unit} {Q Q' : St → Prop} (h : Told F D Q) (hq : ∀ t, F.Ok t → (Q t ↔ Q' t)) : Told F D Q' := ⟨h.1, fun t ht => (h.2 t ht).trans (hq t ht)⟩
abbrev ownsM (w : World) (b n : Nat) (D : DataW Unit) : Prop := w.ownsMap Try.prog 77 (plainElem Try.prog 3) b n D
end Go.Proofs.Ythjllnabjnjpmaa
