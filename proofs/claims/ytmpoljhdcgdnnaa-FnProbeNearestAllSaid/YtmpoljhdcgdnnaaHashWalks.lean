/-
  The walks of products and hashes of vectors: the program's and the reference's.
-/
import Derived.Test.YtmpoljhdcgdnnaaDistWalks
import Derived.Test.YtmpoljhdcgdnnaaHashPlain
import Derived.Test.YtmpoljhdcgdnnaaCentrePlain
namespace Go.Proofs.Ytmpoljhdcgdnnaa
open Go.RowKit
set_option linter.unusedVariables false




end Go.Proofs.Ytmpoljhdcgdnnaa
