/-
  CONTRACTS: l1Flip, l1Turn, GridFlip, GridTurn, GridOther of the reference.
-/
import Derived.Test.YtmbjogjdcghacaaM
namespace Go.Proofs.Ytmbjogjdcghacaa
open Go.RowKit





end Go.Proofs.Ytmbjogjdcghacaa
