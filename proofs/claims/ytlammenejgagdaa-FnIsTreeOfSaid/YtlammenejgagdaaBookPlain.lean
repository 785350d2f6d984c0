/-
  Plain facts on books of codes: two lists of four halves each.
-/
import Derived.Test.YtlammenejgagdaaCentrePlain
namespace Go.Proofs.Ytlammenejgagdaa
set_option linter.unusedVariables false

/-- a valid book -/
def bookB (L R : List (List Int)) : Bool := (decide (L.length = 4) && decide (R.length = 4)) && (vecsB L 2 && vecsB R 2)
theorem bookB_len {L R : List (List Int)} (h : bookB L R = true) : L.length = 4 ∧ R.length = 4 := by
  unfold bookB at h; simp only [Bool.and_eq_true, decide_eq_true_eq] at h; exact h.1
theorem bookB_vecs {L R : List (List Int)} (h : bookB L R = true) : vecsB L 2 = true ∧ vecsB R 2 = true := by
  unfold bookB at h; simp only [Bool.and_eq_true, decide_eq_true_eq] at h; exact h.2
theorem bookB_mk {L R : List (List Int)} (h1 : L.length = 4) (h2 : R.length = 4) (h3 : vecsB L 2 = true) (h4 : vecsB R 2 = true) : bookB L R = true := by
  unfold bookB; rw [decide_eq_true h1, decide_eq_true h2, h3, h4]; rfl
theorem bookB_no_left {L R : List (List Int)} (h : vecsB L 2 = false) : bookB L R = false := by
  unfold bookB; rw [h]; simp
theorem bookB_no_right {L R : List (List Int)} (h : vecsB R 2 = false) : bookB L R = false := by
  unfold bookB; rw [h]; simp
theorem bookB_no_len {L R : List (List Int)} (h : ¬ (L.length = 4 ∧ R.length = 4)) : bookB L R = false := by
  cases hc : bookB L R with
  | false => rfl
  | true => exact absurd (bookB_len hc) h
theorem bookB_comm (L R : List (List Int)) : bookB R L = bookB L R := by
  unfold bookB
  rw [Bool.and_comm (decide (R.length = 4)), Bool.and_comm (vecsB R 2)]
/-- the code of a vector -/
def encI (L R : List (List Int)) (m : List Int) : Nat := near L (m.take 2) * 4 + near R (m.drop 2)
/-- the vector of a code -/
def decL (L R : List (List Int)) (c : Nat) : List Int := L.getD (c / 4) [] ++ R.getD (c % 4) []
theorem vecB_take {m : List Int} (h : vecB m 4 = true) : vecB (m.take 2) 2 = true := by
  have hl := vecB_len h
  have hc := coordsB_ok (vecB_coords h)
  unfold vecB coordsB
  rw [Bool.and_eq_true]
  exact ⟨List.all_eq_true.2 fun x hx => decide_eq_true (hc x (List.mem_of_mem_take hx)), by simp; omega⟩
theorem vecB_drop {m : List Int} (h : vecB m 4 = true) : vecB (m.drop 2) 2 = true := by
  have hl := vecB_len h
  have hc := coordsB_ok (vecB_coords h)
  unfold vecB coordsB
  rw [Bool.and_eq_true]
  exact ⟨List.all_eq_true.2 fun x hx => decide_eq_true (hc x (List.mem_of_mem_drop hx)), by simp; omega⟩
theorem vecB_app {x y : List Int} (hx : vecB x 2 = true) (hy : vecB y 2 = true) : vecB (x ++ y) 4 = true := by
  have lx := vecB_len hx
  have ly := vecB_len hy
  have cx := coordsB_ok (vecB_coords hx)
  have cy := coordsB_ok (vecB_coords hy)
  unfold vecB coordsB
  rw [Bool.and_eq_true]
  exact ⟨List.all_eq_true.2 fun z hz => decide_eq_true (by rcases List.mem_append.1 hz with hz | hz; exact cx z hz; exact cy z hz), by simp; omega⟩
theorem encI_bd {L R : List (List Int)} (h : bookB L R = true) (m : List Int) : near L (m.take 2) < 4 ∧ near R (m.drop 2) < 4 ∧ encI L R m < 16 := by
  obtain ⟨l1, l2⟩ := bookB_len h
  have a := near_lt (ll := L) (m.take 2) (by omega)
  have b := near_lt (ll := R) (m.drop 2) (by omega)
  unfold encI
  omega
theorem decL_vec {L R : List (List Int)} (h : bookB L R = true) {c : Nat} (hc : c < 16) : vecB (decL L R c) 4 = true := by
  obtain ⟨l1, l2⟩ := bookB_len h
  obtain ⟨v1, v2⟩ := bookB_vecs h
  exact vecB_app (vecsB_at v1 (by omega)) (vecsB_at v2 (by omega))
/-- what EncodeVector returns -/
def encV (L R : List (List Int)) (m : List Int) : Int := if bookB L R && vecB m 4 then (encI L R m : Int) else -1
theorem encV_yes {L R : List (List Int)} {m : List Int} (h1 : bookB L R = true) (h2 : vecB m 4 = true) : encV L R m = (encI L R m : Int) := by
  unfold encV; rw [h1, h2]; rfl
theorem encV_no1 {L R : List (List Int)} {m : List Int} (h1 : bookB L R = false) : encV L R m = -1 := by
  unfold encV; rw [h1]; rfl
theorem encV_no2 {L R : List (List Int)} {m : List Int} (h2 : vecB m 4 = false) : encV L R m = -1 := by
  unfold encV; rw [h2, Bool.and_false]; rfl
/-- the distances of all codes -/
def disL (L R : List (List Int)) (m : List Int) (n : Nat) : List Int := (List.range n).map fun c => dst 3 (decL L R c) m 4
theorem disL_succ (L R : List (List Int)) (m : List Int) (n : Nat) : disL L R m (n + 1) = disL L R m n ++ [dst 3 (decL L R n) m 4] := by
  unfold disL; rw [List.range_succ, List.map_append]; rfl
theorem disL_length (L R : List (List Int)) (m : List Int) (n : Nat) : (disL L R m n).length = n := by
  unfold disL; simp
end Go.Proofs.Ytlammenejgagdaa
