/-
  The walks of AssignItems and SpreadOf, the program's and the reference's.
-/
import Derived.Test.YtmpoljhdcgdnnaaClusPlain
import Derived.Test.YtmpoljhdcgdnnaaStoreWalks
import Derived.Test.YtmpoljhdcgdnnaaVecTops
import Derived.Test.YtmpoljhdcgdnnaaDistWalks
import Derived.Test.YtmpoljhdcgdnnaaMarkSS
namespace Go.Proofs.Ytmpoljhdcgdnnaa
open Go.RowKit
set_option linter.unusedVariables false

/-- a nil slice -/
def NilR (w : World) (e : Ending) (w' : World) : Prop := e = .returned (.slice none 0 0) ∧ Below w.heap.size w w'
/-- .. as its caller reads it -/
def ReadInts (w : World) (l : List Int) (e : Ending) (w' : World) : Prop :=
  ∃ a cap, e = .returned (.slice a l.length cap) ∧ Ints w' 0 w'.heap.size a l ∧ Cap l.length cap ∧ Below w.heap.size w w'
theorem NewInts.read {w w' : World} {l : List Int} {e : Ending} (hok : ∀ x ∈ l, -9223372036854775808 ≤ x ∧ x ≤ 9223372036854775807) (hl : l.length ≤ 9223372036854775807) (h : NewInts w l e w') : ReadInts w l e w' := by
  obtain ⟨a, cap, he, h3, h4⟩ := h
  obtain ⟨a', c, hv, hi⟩ := ints_of_owns h3 hok hl
  simp only [Value.slice.injEq] at hv
  obtain ⟨rfl, _, rfl⟩ := hv
  exact ⟨a, cap, he, hi.wide (Nat.zero_le _) (Nat.le_refl _), owns_cap h3, h4⟩
theorem NewInts.mk {w w' : World} {v : Value} {n : Nat} {l : List Int} (hl : l.length = n) (ho : w'.ownsRow w.heap.size 3 1 v n (l.map (Value.int .i64))) (hb : Below w.heap.size w w') : NewInts w l (.returned v) w' := by
  subst hl
  obtain ⟨a, cap, rfl, _⟩ := owns_form ho
  exact ⟨a, cap, rfl, ho, hb⟩
theorem owns_low {w : World} {lo lo' e size n : Nat} {v : Value} {xs : List Value} (h : w.ownsRow lo e size v n xs) (hl : lo' ≤ lo) : w.ownsRow lo' e size v n xs :=
  ⟨h.1, h.2.imp id fun ⟨g', c', cur, q1, q2, q3⟩ => ⟨g', c', cur, q1, Nat.le_trans hl q2, q3⟩⟩

end Go.Proofs.Ytmpoljhdcgdnnaa
