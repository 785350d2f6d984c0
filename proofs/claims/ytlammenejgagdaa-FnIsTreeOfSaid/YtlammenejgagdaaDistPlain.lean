/-
  Plain facts on distances: what the first k coordinates add up to, for each kind.
-/
import Derived.Test.YtlammenejgagdaaVecPlain
namespace Go.Proofs.Ytlammenejgagdaa
set_option linter.unusedVariables false

/-- the absolute difference -/
def adiff (x y : Int) : Int := if x - y < y - x then y - x else x - y
theorem adiff_bd {x y : Int} (h1 : -100 ≤ x ∧ x ≤ 100) (h2 : -100 ≤ y ∧ y ≤ 100) : 0 ≤ adiff x y ∧ adiff x y ≤ 200 := by unfold adiff; split <;> omega
theorem adiff_comm (x y : Int) : adiff x y = adiff y x := by unfold adiff; split <;> split <;> omega
theorem adiff_zero {x y : Int} : adiff x y = 0 ↔ x = y := by unfold adiff; split <;> omega
theorem adiff_nonneg (x y : Int) : 0 ≤ adiff x y := by unfold adiff; split <;> omega

/-- one coordinate more -/
def dstep (kind : Int) (n d : Int) : Int := if kind = 1 then n + d else if kind = 2 then (if n < d then d else n) else if kind = 3 then n + d * d else n + if 0 < d then 1 else 0
theorem dstep_1 (n d : Int) : dstep 1 n d = n + d := by simp [dstep]
theorem dstep_2 (n d : Int) : dstep 2 n d = if n < d then d else n := by simp [dstep]
theorem dstep_3 (n d : Int) : dstep 3 n d = n + d * d := by simp [dstep]
theorem dstep_pos (n : Int) {kind d : Int} (h1 : kind ≠ 1) (h2 : kind ≠ 2) (h3 : kind ≠ 3) (h : 0 < d) : dstep kind n d = n + 1 := by simp [dstep, h, h1, h2, h3]
theorem dstep_zero (n : Int) {kind d : Int} (h1 : kind ≠ 1) (h2 : kind ≠ 2) (h3 : kind ≠ 3) (h : ¬ 0 < d) : dstep kind n d = n := by simp [dstep, h, h1, h2, h3]
/-- the distance of the first k coordinates -/
def dst (kind : Int) (a b : List Int) : Nat → Int
  | 0 => 0
  | k + 1 => dstep kind (dst kind a b k) (adiff (a.getD k 0) (b.getD k 0))

theorem sq_bd {d : Int} (h0 : 0 ≤ d) (h1 : d ≤ 200) : 0 ≤ d * d ∧ d * d ≤ 40000 := by
  refine ⟨Int.mul_nonneg h0 h0, ?_⟩
  have := Int.mul_le_mul h1 h1 h0 (by omega)
  omega

theorem dstep_bd {kind n d : Int} {k : Nat} (h : 0 ≤ n ∧ n ≤ 40000 * (k : Int)) (hd : 0 ≤ d ∧ d ≤ 200) : 0 ≤ dstep kind n d ∧ dstep kind n d ≤ 40000 * ((k + 1 : Nat) : Int) := by
  have hs := sq_bd hd.1 hd.2
  have e : ((k + 1 : Nat) : Int) = (k : Int) + 1 := by omega
  rw [e]
  unfold dstep
  split
  · omega
  · split
    · split <;> omega
    · split
      · omega
      · split <;> omega

theorem coordsB_at {l : List Int} (h : coordsB l = true) (k : Nat) : -100 ≤ l.getD k 0 ∧ l.getD k 0 ≤ 100 := by
  unfold coordsB at h
  simp only [List.all_eq_true, decide_eq_true_eq] at h
  by_cases hk : k < l.length
  · refine h _ ?_
    rw [List.getD_eq_getElem?_getD, List.getElem?_eq_getElem hk]
    exact List.getElem_mem _
  · rw [List.getD_eq_getElem?_getD, List.getElem?_eq_none (by omega)]
    simp
theorem vecB_coords {l : List Int} {n : Int} (h : vecB l n = true) : coordsB l = true := by
  unfold vecB at h; simp only [Bool.and_eq_true] at h; exact h.1

theorem dst_bd (kind : Int) {a b : List Int} (ha : coordsB a = true) (hb : coordsB b = true) (k : Nat) : 0 ≤ dst kind a b k ∧ dst kind a b k ≤ 40000 * (k : Int) := by
  induction k with
  | zero => simp [dst]
  | succ k ih => exact dstep_bd ih (adiff_bd (coordsB_at ha k) (coordsB_at hb k))

theorem dst_comm (kind : Int) (a b : List Int) (k : Nat) : dst kind a b k = dst kind b a k := by
  induction k with
  | zero => rfl
  | succ k ih => simp only [dst, ih, adiff_comm]
theorem dst_other {kind : Int} (h1 : kind ≠ 1) (h2 : kind ≠ 2) (h3 : kind ≠ 3) (a b : List Int) (k : Nat) : dst kind a b k = dst 4 a b k := by
  induction k with
  | zero => rfl
  | succ k ih => simp [dst, ih, dstep, h1, h2, h3]
end Go.Proofs.Ytlammenejgagdaa
