/-
  Plain facts on vectors: what isVector says of a list of ints.
-/
import Derived.Test.YtlammenejgagdaaBase
namespace Go.Proofs.Ytlammenejgagdaa
set_option linter.unusedVariables false

/-- every element lies between -100 and 100 -/
def coordsB (l : List Int) : Bool := l.all fun x => decide (-100 ≤ x ∧ x ≤ 100)
/-- 'is a list of n coordinates' -/
def vecB (l : List Int) (n : Int) : Bool := coordsB l && ((l.length : Int) == n)

theorem coordsB_take_succ (l : List Int) (k : Nat) (hk : k < l.length) : coordsB (l.take (k + 1)) = (coordsB (l.take k) && decide (-100 ≤ l.getD k 0 ∧ l.getD k 0 ≤ 100)) := by
  unfold coordsB
  rw [List.take_succ_eq_append_getElem hk, List.all_append, List.getD_eq_getElem?_getD, List.getElem?_eq_getElem hk]
  simp
theorem coordsB_snoc (l : List Int) (x : Int) : coordsB (l ++ [x]) = (coordsB l && decide (-100 ≤ x ∧ x ≤ 100)) := by
  unfold coordsB; rw [List.all_append]; simp
theorem coordsB_ok {l : List Int} (h : coordsB l = true) : ∀ x ∈ l, -100 ≤ x ∧ x ≤ 100 := by
  unfold coordsB at h
  simpa using h
theorem coordsB_no (l : List Int) (k : Nat) (hk : k < l.length) (h : ¬ (-100 ≤ l.getD k 0 ∧ l.getD k 0 ≤ 100)) : coordsB l = false := by
  unfold coordsB
  rw [List.all_eq_false]
  refine ⟨l.getD k 0, ?_, by simpa using h⟩
  rw [List.getD_eq_getElem?_getD, List.getElem?_eq_getElem hk]
  exact List.getElem_mem _
theorem vecB_no (l : List Int) (n : Int) (k : Nat) (hk : k < l.length) (h : ¬ (-100 ≤ l.getD k 0 ∧ l.getD k 0 ≤ 100)) : vecB l n = false := by
  unfold vecB; rw [coordsB_no l k hk h]; rfl
theorem vecB_end (l : List Int) (n : Int) (h : coordsB (l.take l.length) = true) : vecB l n = ((l.length : Int) == n) := by
  rw [List.take_length] at h
  unfold vecB; rw [h]; rfl
theorem vecB_len {l : List Int} {n : Int} (h : vecB l n = true) : (l.length : Int) = n := by
  unfold vecB at h; simp at h; exact h.2
theorem vecB_at {l : List Int} {n : Int} (h : vecB l n = true) (k : Nat) : -100 ≤ l.getD k 0 ∧ l.getD k 0 ≤ 100 := by
  unfold vecB coordsB at h
  simp only [Bool.and_eq_true, List.all_eq_true, decide_eq_true_eq] at h
  by_cases hk : k < l.length
  · refine h.1 _ ?_
    rw [List.getD_eq_getElem?_getD, List.getElem?_eq_getElem hk]
    exact List.getElem_mem _
  · rw [List.getD_eq_getElem?_getD, List.getElem?_eq_none (by omega)]
    simp
end Go.Proofs.Ytlammenejgagdaa
