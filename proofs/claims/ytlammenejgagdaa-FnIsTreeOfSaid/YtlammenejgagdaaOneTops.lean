/-
  The exported functions on one vector or two: what the program returns.
-/
import Derived.Test.YtlammenejgagdaaDistWalks
namespace Go.Proofs.Ytlammenejgagdaa
open Go.RowKit
set_option linter.unusedVariables false

end Go.Proofs.Ytlammenejgagdaa
