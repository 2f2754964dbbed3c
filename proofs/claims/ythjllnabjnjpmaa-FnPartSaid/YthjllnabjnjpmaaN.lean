/-
  CONTRACTS: l1Flip, l1Turn, GridFlip, GridTurn, GridOther of the reference.
-/
import Derived.Test.YthjllnabjnjpmaaM
namespace Go.Proofs.Ythjllnabjnjpmaa
set_option maxRecDepth 100000
open Go.RowKit





end Go.Proofs.Ythjllnabjnjpmaa
