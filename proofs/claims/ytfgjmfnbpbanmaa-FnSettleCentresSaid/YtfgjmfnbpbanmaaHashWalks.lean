/-
  The walks of products and hashes of vectors: the program's and the reference's.
-/
import Derived.Test.YtfgjmfnbpbanmaaDistWalks
import Derived.Test.YtfgjmfnbpbanmaaHashPlain
import Derived.Test.YtfgjmfnbpbanmaaCentrePlain
namespace Go.Proofs.Ytfgjmfnbpbanmaa
open Go.RowKit
set_option linter.unusedVariables false




end Go.Proofs.Ytfgjmfnbpbanmaa
