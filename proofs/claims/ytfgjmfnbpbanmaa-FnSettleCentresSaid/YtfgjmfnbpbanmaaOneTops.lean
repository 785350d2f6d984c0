/-
  The exported functions on one vector or two: what the program returns.
-/
import Derived.Test.YtfgjmfnbpbanmaaDistWalks
namespace Go.Proofs.Ytfgjmfnbpbanmaa
open Go.RowKit
set_option linter.unusedVariables false

end Go.Proofs.Ytfgjmfnbpbanmaa
