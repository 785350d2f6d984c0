/-
  The walks of the program's sorting of the numbers of centres. slices.SortStableFunc at the numbers of centres.
-/
import Derived.Test.YtlammenejgagdaaSortPlain
import Derived.Test.YtlammenejgagdaaDistWalks
import Derived.Test.YtlammenejgagdaaOwn
namespace Go.Proofs.Ytlammenejgagdaa
open Go.RowKit
set_option linter.unusedVariables false

theorem isNaN_any (w : World) (a : Int) : Calls Try.prog 73 #[.int .i64 a] w fun e w' => e = .returned (.bool false) ∧ w = w' := by
  have h : (a != a) = false := by simp
  go_enter Try.func73, Try.ntmps73
  go_wp2_with fail
  go_ret
  exact ⟨rfl, rfl⟩
set_option maxHeartbeats 400000 in
theorem compare_any (w : World) (a b : Int) : Calls Try.prog 53 #[.int .i64 a, .int .i64 b] w fun e w' => e = .returned (.int .i64 (cmpI a b)) ∧ w = w' := by
  by_cases h1 : a < b
  · have e : cmpI a b = -1 := by unfold cmpI; rw [if_pos h1]
    have d1 : decide (a < b) = true := decide_eq_true h1
    go_enter Try.func53, Try.ntmps53
    go_wp2_with (go_at_call 73; refine (isNaN_any _ _).mono ?_; rintro e w' ⟨rfl, rfl⟩)
    go_ret
    exact ⟨ret_int e.symm, rfl⟩
  · have d1 : decide (a < b) = false := decide_eq_false h1
    by_cases h2 : b < a
    · have e : cmpI a b = 1 := by unfold cmpI; rw [if_neg h1, if_pos h2]
      have d2 : decide (b < a) = true := decide_eq_true h2
      go_enter Try.func53, Try.ntmps53
      go_wp2_with (go_at_call 73; refine (isNaN_any _ _).mono ?_; rintro e w' ⟨rfl, rfl⟩)
      go_ret
      exact ⟨ret_int e.symm, rfl⟩
    · have e : cmpI a b = 0 := by unfold cmpI; rw [if_neg h1, if_neg h2]
      have d2 : decide (b < a) = false := decide_eq_false h2
      go_enter Try.func53, Try.ntmps53
      go_wp2_with (go_at_call 73; refine (isNaN_any _ _).mono ?_; rintro e w' ⟨rfl, rfl⟩)
      go_ret
      exact ⟨ret_int e.symm, rfl⟩
end Go.Proofs.Ytlammenejgagdaa

namespace Go.Proofs.Ytlammenejgagdaa
open Go.RowKit
set_option linter.unusedVariables false

end Go.Proofs.Ytlammenejgagdaa
