/-
  The walks of the laws' own comparisons of slices of ints, and of slices of slices of ints.
-/
import Derived.Test.YtlammenejgagdaaLists
import Derived.Deep.QuietTactic
import Derived.BigQuiet
namespace Go.Proofs.Ytlammenejgagdaa
open Go.RowKit
set_option linter.unusedVariables false

def eqL (l m : List Int) : Bool := decide (l = m)
def eqLL (l m : List (List Int)) : Bool := decide (l = m)
theorem eqL_self (l : List Int) : eqL l l = true := decide_eq_true rfl
theorem eqL_app {a b c d : List Int} (h : a.length = c.length) : eqL (a ++ b) (c ++ d) = (eqL a c && eqL b d) := by
  unfold eqL
  rw [← Bool.decide_and]
  exact decide_eq_decide.2 ⟨fun e => List.append_inj e h, fun e => by rw [e.1, e.2]⟩
theorem eqLL_self (l : List (List Int)) : eqLL l l = true := decide_eq_true rfl

theorem take_succ_eq {α : Type} {l m : List α} {k : Nat} (d : α) (hl : k < l.length) (hm : k < m.length) (h : l.take k = m.take k) (he : l.getD k d = m.getD k d) : l.take (k + 1) = m.take (k + 1) := by
  rw [List.take_succ_eq_append_getElem hl, List.take_succ_eq_append_getElem hm, h]
  rw [List.getD_eq_getElem?_getD, List.getD_eq_getElem?_getD, List.getElem?_eq_getElem hl, List.getElem?_eq_getElem hm] at he
  simp at he
  rw [he]
theorem ne_of_getD {α : Type} {l m : List α} {k : Nat} (d : α) (he : l.getD k d ≠ m.getD k d) : l ≠ m := fun h => he (by rw [h])
theorem eq_of_takes {α : Type} {l m : List α} {k : Nat} (hk : k = l.length) (hlm : l.length = m.length) (h : l.take k = m.take k) : l = m := by
  subst hk
  rw [List.take_length, hlm, List.take_length] at h
  exact h

end Go.Proofs.Ytlammenejgagdaa
