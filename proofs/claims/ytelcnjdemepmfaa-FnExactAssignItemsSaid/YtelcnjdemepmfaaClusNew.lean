/-
  What AssignItems returns, for all arguments, as one contract.
-/
import Derived.Test.YtelcnjdemepmfaaClusWalks
namespace Go.Proofs.Ytelcnjdemepmfaa
open Go.RowKit
set_option linter.unusedVariables false

def asgV (cs : List (List Int)) (ll : List It) : List Int := if csB cs ll = true then asgL cs ll ll.length else []
theorem asgV_ok (cs : List (List Int)) (ll : List It) (hl : ll.length ≤ 9223372036854775807) : (∀ x ∈ asgV cs ll, -9223372036854775808 ≤ x ∧ x ≤ 9223372036854775807) ∧ (asgV cs ll).length ≤ 9223372036854775807 ∧ (asgV cs ll).length ≤ 1048576 := by
  unfold asgV
  by_cases h : csB cs ll = true
  · rw [if_pos h]
    have := storeB_len (csB_store h)
    exact ⟨fun x hx => by have := asgL_ok (csB_cen h) ll _ x hx; omega, by rw [asgL_length]; omega, by rw [asgL_length]; omega⟩
  · rw [if_neg h]; simp
theorem NilR.new {w w' : World} {e : Ending} (h : NilR w e w') : NewInts w [] e w' := by
  obtain ⟨rfl, hb⟩ := h
  exact NewInts.nil hb
theorem implAssignItems_new (w : World) (lo hi lo' hi' : Nat) (a b : Option Addr) (cap cap' : Nat) (cs : List (List Int)) (ll : List It) (hA : Lists w lo hi a cs) (hI : Items w lo' hi' b ll) :
    Calls Try.prog 24 #[.slice a cs.length cap, .slice b ll.length cap'] w (NewInts w (asgV cs ll)) := by
  cases hv : csB cs ll
  · have e : asgV cs ll = [] := if_neg (by rw [hv]; simp)
    rw [e]
    exact (implAssignItems_no w lo hi lo' hi' a b cap cap' cs ll hA hI hv).mono fun _ _ h => h.new
  · have e : asgV cs ll = asgL cs ll ll.length := if_pos hv
    rw [e]
    exact implAssignItems_yes w lo hi lo' hi' a b cap cap' cs ll hA hI hv
theorem specAssignItems_new (w : World) (lo hi lo' hi' : Nat) (a b : Option Addr) (cap cap' : Nat) (cs : List (List Int)) (ll : List It) (hA : Lists w lo hi a cs) (hI : Items w lo' hi' b ll) :
    Calls Try.prog 23 #[.slice a cs.length cap, .slice b ll.length cap'] w (NewInts w (asgV cs ll)) := by
  cases hv : csB cs ll
  · have e : asgV cs ll = [] := if_neg (by rw [hv]; simp)
    rw [e]
    exact (specAssignItems_no w lo hi lo' hi' a b cap cap' cs ll hA hI hv).mono fun _ _ h => h.new
  · have e : asgV cs ll = asgL cs ll ll.length := if_pos hv
    rw [e]
    exact specAssignItems_yes w lo hi lo' hi' a b cap cap' cs ll hA hI hv
end Go.Proofs.Ytelcnjdemepmfaa
