/-
  Plain facts on the closest of several lists of numbers.
-/
import Derived.Test.YtjonaolapbnepaaDistPlain
import Derived.Test.YtjonaolapbnepaaLists
namespace Go.Proofs.Ytjonaolapbnepaa
set_option linter.unusedVariables false

/-- the sum of the squares of the differences -/
def sqd (v m : List Int) : Int := dst 3 v m v.length
/-- the number of the first one of the first k rows that is closest to m -/
def best (ll : List (List Int)) (m : List Int) : Nat → Nat
  | 0 => 0
  | k + 1 => if sqd (ll.getD k []) m < sqd (ll.getD (best ll m k) []) m then k else best ll m k
/-- the number of the closest row -/
def near (ll : List (List Int)) (m : List Int) : Nat := best ll m ll.length

theorem best_lt (ll : List (List Int)) (m : List Int) (k : Nat) (hk : 1 ≤ k) : best ll m k < k := by
  induction k with
  | zero => omega
  | succ k ih =>
    simp only [best]
    split
    · omega
    · cases k with
      | zero => simp [best]
      | succ k => have := ih (by omega); omega
theorem best_one (ll : List (List Int)) (m : List Int) : best ll m 1 = 0 := by simp [best]
theorem best_le (ll : List (List Int)) (m : List Int) (k : Nat) : best ll m k ≤ k := by
  cases k with
  | zero => simp [best]
  | succ k => have := best_lt ll m (k + 1) (by omega); omega
theorem near_lt {ll : List (List Int)} (m : List Int) (h : 1 ≤ ll.length) : near ll m < ll.length := best_lt ll m _ h
theorem best_yes {ll : List (List Int)} {m : List Int} {k : Nat} (h : sqd (ll.getD k []) m < sqd (ll.getD (best ll m k) []) m) : best ll m (k + 1) = k := if_pos h
theorem best_not {ll : List (List Int)} {m : List Int} {k : Nat} (h : ¬ sqd (ll.getD k []) m < sqd (ll.getD (best ll m k) []) m) : best ll m (k + 1) = best ll m k := if_neg h
/-- no row among the first k is closer, and no earlier one as close -/
theorem best_best (ll : List (List Int)) (m : List Int) (k : Nat) : ∀ j, j < k → sqd (ll.getD (best ll m k) []) m ≤ sqd (ll.getD j []) m ∧ (sqd (ll.getD j []) m = sqd (ll.getD (best ll m k) []) m → best ll m k ≤ j) := by
  induction k with
  | zero => intro j hj; omega
  | succ k ih =>
    intro j hj
    by_cases h : sqd (ll.getD k []) m < sqd (ll.getD (best ll m k) []) m
    · rw [best_yes h]
      by_cases hjk : j = k
      · subst hjk; exact ⟨Int.le_refl _, fun _ => Nat.le_refl _⟩
      · have := ih j (by omega)
        exact ⟨by omega, fun e => by omega⟩
    · rw [best_not h]
      by_cases hjk : j = k
      · subst hjk
        exact ⟨by omega, fun _ => best_le ll m j⟩
      · exact ih j (by omega)

/-- what closestOf asks of the rows -/
def RowsOk (ll : List (List Int)) (m : List Int) : Prop := ∀ j, j < ll.length → coordsB (ll.getD j []) = true ∧ (ll.getD j []).length ≤ m.length ∧ (ll.getD j []).length ≤ 1000
theorem rowsOk_of {ll : List (List Int)} {m : List Int} {n : Int} (h : vecsB ll n = true) (hm : vecB m n = true) (hn : n ≤ 1000) : RowsOk ll m := fun j hj => by
  have h1 := vecsB_at h hj
  have h2 := vecB_len h1
  have h3 := vecB_len hm
  exact ⟨vecB_coords h1, by omega, by omega⟩
end Go.Proofs.Ytjonaolapbnepaa
