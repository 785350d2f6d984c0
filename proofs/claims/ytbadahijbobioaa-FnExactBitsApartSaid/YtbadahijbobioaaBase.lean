/-
  Small lemmas that all texts of this seat use: what a call hands back, worlds that differ in new blocks or in a stretch of blocks, slices that read as lists.
-/
import Derived.Test.YtbadahijbobioaaRows
import Derived.WalkKit
import Derived.WalkSpells
import Derived.WalkLawsBesides
import Derived.Lib.Hide
namespace Go.Proofs.Ytbadahijbobioaa
open Go.RowKit
set_option linter.unusedVariables false

theorem ret_int {k : IntKind} {a b : Int} (h : a = b) : Ending.returned (.int k a) = .returned (.int k b) := by rw [h]
theorem ret_bool {a b : Bool} (h : a = b) : Ending.returned (.bool a) = .returned (.bool b) := by rw [h]

/-- 'n is in a range', as the reference's inRange returns it -/
def inR (n low high : Int) : Bool := decide (low ≤ n ∧ n ≤ high)
theorem inR_true {n low high : Int} (h : low ≤ n ∧ n ≤ high) : inR n low high = true := decide_eq_true h
theorem inR_false {n low high : Int} (h : ¬ (low ≤ n ∧ n ≤ high)) : inR n low high = false := decide_eq_false h

end Go.Proofs.Ytbadahijbobioaa
