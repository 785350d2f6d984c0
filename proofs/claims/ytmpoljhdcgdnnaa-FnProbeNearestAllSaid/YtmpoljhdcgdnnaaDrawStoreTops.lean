/-
  What the Draw functions of centres and stores hand over, whatever the code.
-/
import Derived.Test.YtmpoljhdcgdnnaaDrawStore
namespace Go.Proofs.Ytmpoljhdcgdnnaa
open Go.RowKit
set_option linter.unusedVariables false

def DrawnCS (w : World) (e : Ending) (w' : World) : Prop :=
  ∃ (a b : Option Addr) (cap cap' : Nat) (cs : List (List Int)) (ll : List It), e = .returned (.tuple #[.slice a cs.length cap, .slice b ll.length cap']) ∧ (Lists w' 0 w'.heap.size a cs ∧ Cap cs.length cap) ∧ (Items w' 0 w'.heap.size b ll ∧ Cap ll.length cap') ∧ (cs.length ≤ 10 ∧ ll.length ≤ 17) ∧ Below w.heap.size w w'

end Go.Proofs.Ytmpoljhdcgdnnaa
