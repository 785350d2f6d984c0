/-
  Plain facts on the closest of several lists of numbers.
-/
import Derived.Test.YtlammenejgagdaaDistPlain
import Derived.Test.YtlammenejgagdaaLists
namespace Go.Proofs.Ytlammenejgagdaa
set_option linter.unusedVariables false

/-- the sum of the squares of the differences -/
def sqd (v m : List Int) : Int := dst 3 v m v.length
/-- the number of the first one of the first k rows that is closest to m -/
def best (ll : List (List Int)) (m : List Int) : Nat → Nat
  | 0 => 0
  | k + 1 => if sqd (ll.getD k []) m < sqd (ll.getD (best ll m k) []) m then k else best ll m k
/-- the number of the closest row -/
def near (ll : List (List Int)) (m : List Int) : Nat := best ll m ll.length

theorem best_lt (ll : List (List Int)) (m : List Int) (k : Nat) (hk : 1 ≤ k) : best ll m k < k := by
  induction k with
  | zero => omega
  | succ k ih =>
    simp only [best]
    split
    · omega
    · cases k with
      | zero => simp [best]
      | succ k => have := ih (by omega); omega
theorem best_one (ll : List (List Int)) (m : List Int) : best ll m 1 = 0 := by simp [best]
theorem best_le (ll : List (List Int)) (m : List Int) (k : Nat) : best ll m k ≤ k := by
  cases k with
  | zero => simp [best]
  | succ k => have := best_lt ll m (k + 1) (by omega); omega
theorem near_lt {ll : List (List Int)} (m : List Int) (h : 1 ≤ ll.length) : near ll m < ll.length := best_lt ll m _ h
theorem best_yes {ll : List (List Int)} {m : List Int} {k : Nat} (h : sqd (ll.getD k []) m < sqd (ll.getD (best ll m k) []) m) : best ll m (k + 1) = k := if_pos h
theorem best_not {ll : List (List Int)} {m : List Int} {k : Nat} (h : ¬ sqd (ll.getD k []) m < sqd (ll.getD (best ll m k) []) m) : best ll m (k + 1) = best ll m k := if_neg h
/-- no row among the first k is closer, and no earlier one as close -/
theorem best_best (ll : List (List Int)) (m : List Int) (k : Nat) : ∀ j, j < k → sqd (ll.getD (best ll m k) []) m ≤ sqd (ll.getD j []) m ∧ (sqd (ll.getD j []) m = sqd (ll.getD (best ll m k) []) m → best ll m k ≤ j) := by
  induction k with
  | zero => intro j hj; omega
  | succ k ih =>
    intro j hj
    by_cases h : sqd (ll.getD k []) m < sqd (ll.getD (best ll m k) []) m
    · rw [best_yes h]
      by_cases hjk : j = k
      · subst hjk; exact ⟨Int.le_refl _, fun _ => Nat.le_refl _⟩
      · have := ih j (by omega)
        exact ⟨by omega, fun e => by omega⟩
    · rw [best_not h]
      by_cases hjk : j = k
      · subst hjk
        exact ⟨by omega, fun _ => best_le ll m j⟩
      · exact ih j (by omega)

/-- what closestOf asks of the rows -/
def RowsOk (ll : List (List Int)) (m : List Int) : Prop := ∀ j, j < ll.length → coordsB (ll.getD j []) = true ∧ (ll.getD j []).length ≤ m.length ∧ (ll.getD j []).length ≤ 1000
theorem rowsOk_of {ll : List (List Int)} {m : List Int} {n : Int} (h : vecsB ll n = true) (hm : vecB m n = true) (hn : n ≤ 1000) : RowsOk ll m := fun j hj => by
  have h1 := vecsB_at h hj
  have h2 := vecB_len h1
  have h3 := vecB_len hm
  exact ⟨vecB_coords h1, by omega, by omega⟩
theorem mul_self_nonneg (d : Int) : 0 ≤ d * d := by
  rcases Int.le_total 0 d with h | h
  · exact Int.mul_nonneg h h
  · have := Int.mul_nonneg (show 0 ≤ -d by omega) (show 0 ≤ -d by omega)
    rwa [Int.neg_mul_neg] at this
theorem dst3_nonneg (a b : List Int) (k : Nat) : 0 ≤ dst 3 a b k := by
  induction k with
  | zero => simp [dst]
  | succ k ih =>
    simp only [dst, dstep_3]
    have := mul_self_nonneg (adiff (a.getD k 0) (b.getD k 0))
    omega
theorem dst3_self (a : List Int) (k : Nat) : dst 3 a a k = 0 := by
  induction k with
  | zero => rfl
  | succ k ih => simp [dst, dstep_3, ih, adiff]
theorem sqd_self (v : List Int) : sqd v v = 0 := dst3_self v _
theorem sqd_nonneg (v m : List Int) : 0 ≤ sqd v m := dst3_nonneg v m _
theorem dst3_zero {a b : List Int} {k : Nat} (h : dst 3 a b k = 0) : ∀ j, j < k → a.getD j 0 = b.getD j 0 := by
  induction k with
  | zero => intro j hj; omega
  | succ k ih =>
    simp only [dst, dstep_3] at h
    have h1 := dst3_nonneg a b k
    have h2 := mul_self_nonneg (adiff (a.getD k 0) (b.getD k 0))
    intro j hj
    by_cases hjk : j = k
    · subst hjk
      have h3 : adiff (a.getD j 0) (b.getD j 0) * adiff (a.getD j 0) (b.getD j 0) = 0 := by omega
      have h4 : adiff (a.getD j 0) (b.getD j 0) = 0 := by
        rcases Int.mul_eq_zero.1 h3 with h | h <;> exact h
      exact adiff_zero.1 h4
    · exact ih (by omega) j (by omega)
theorem list_ext {a b : List Int} (hl : a.length = b.length) (h : ∀ j, j < a.length → a.getD j 0 = b.getD j 0) : a = b := by
  refine List.ext_getElem? fun j => ?_
  by_cases hj : j < a.length
  · have := h j hj
    rw [List.getD_eq_getElem?_getD, List.getD_eq_getElem?_getD, List.getElem?_eq_getElem hj, List.getElem?_eq_getElem (by omega)] at this
    rw [List.getElem?_eq_getElem hj, List.getElem?_eq_getElem (by omega)]
    simpa using this
  · rw [List.getElem?_eq_none (by omega), List.getElem?_eq_none (by omega)]
theorem sqd_zero {v m : List Int} (hl : v.length = m.length) (h : sqd v m = 0) : v = m := list_ext hl (dst3_zero h)
/-- the closest of rows of which one is the vector itself is equal to it, and not behind it -/
theorem near_self {ll : List (List Int)} {m : List Int} {k : Nat} (hk : k < ll.length) (he : ll.getD k [] = m) (hlen : (ll.getD (near ll m) []).length = m.length) : ll.getD (near ll m) [] = m ∧ near ll m ≤ k := by
  have h := best_best ll m ll.length k hk
  rw [he, sqd_self] at h
  have h0 := sqd_nonneg (ll.getD (best ll m ll.length) []) m
  have h1 : sqd (ll.getD (best ll m ll.length) []) m = 0 := by omega
  exact ⟨sqd_zero hlen h1, h.2 (by omega)⟩
end Go.Proofs.Ytlammenejgagdaa
