/-
  The walks of products and hashes of vectors: the program's and the reference's.
-/
import Derived.Test.YtelcnjdemepmfaaDistWalks
import Derived.Test.YtelcnjdemepmfaaHashPlain
import Derived.Test.YtelcnjdemepmfaaCentrePlain
namespace Go.Proofs.Ytelcnjdemepmfaa
open Go.RowKit
set_option linter.unusedVariables false




end Go.Proofs.Ytelcnjdemepmfaa
