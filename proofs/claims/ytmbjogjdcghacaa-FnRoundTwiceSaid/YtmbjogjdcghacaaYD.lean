/-
  PLAIN LAWS: rounds of grids that are turned and flipped.
-/
import Derived.Test.YtmbjogjdcghacaaY
import Derived.Test.YtmbjogjdcghacaaBA
import Derived.Test.YtmbjogjdcghacaaPH
namespace Go.Proofs.Ytmbjogjdcghacaa
theorem fld_turn {g : List ByteArray} (hg : gridB g = true) : Fd.Sym (fld g) (fld (gTurn g)) (Fd.turnS g.length) :=
  Fd.sym_turn (F := fld g) (F' := fld (gTurn g)) turn_len (turn_width hg) fun r c hr hc => by
    have hr' : r < g.length := hr
    have h := cell_turn hg (r := c) (c := g.length - 1 - r) hc (by omega)
    rw [show g.length - 1 - (g.length - 1 - r) = r by omega] at h
    exact h
theorem fld_flip {g : List ByteArray} (hg : gridB g = true) : Fd.Sym (fld g) (fld (gFlip g)) (Fd.flipS (width g)) :=
  Fd.sym_flip (F := fld g) (F' := fld (gFlip g)) flip_len (flip_width hg) fun r c hr hc => by
    have hc' : c < width g := hc
    have h := cell_flip hg (r := r) (c := width g - 1 - c) hr (by omega)
    rw [show width g - 1 - (width g - 1 - c) = c by omega] at h
    exact h
theorem leads_turn {g : List ByteArray} (hg : gridB g = true) : (fld (gTurn g)).leads.length = (fld g).leads.length :=
  Fd.sym_leads (fld_turn hg) (grid_width hg).1 (grid_width (grid_turn hg)).1
theorem leads_flip {g : List ByteArray} (hg : gridB g = true) : (fld (gFlip g)).leads.length = (fld g).leads.length :=
  Fd.sym_leads (fld_flip hg) (grid_width hg).1 (grid_width (grid_flip hg)).1
theorem twos_turn {g : List ByteArray} (hg : gridB g = true) : (fld (gTurn g)).twos = (fld g).twos :=
  Fd.sym_twos (fld_turn hg) turn_len (turn_width hg) (grid_len hg).1 (grid_width hg).1
end Go.Proofs.Ytmbjogjdcghacaa
