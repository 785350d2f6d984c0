/-
  Plain facts on products and hashes of vectors.
-/
import Derived.Test.YtmpoljhdcgdnnaaDistPlain
import Derived.Test.YtmpoljhdcgdnnaaLists
namespace Go.Proofs.Ytmpoljhdcgdnnaa
set_option linter.unusedVariables false

theorem mul_bd {x y : Int} (hx : -100 ≤ x ∧ x ≤ 100) (hy : -100 ≤ y ∧ y ≤ 100) : -10000 ≤ x * y ∧ x * y ≤ 10000 := by
  have h1 : x.natAbs ≤ 100 := by omega
  have h2 : y.natAbs ≤ 100 := by omega
  have h3 := Nat.mul_le_mul h1 h2
  rw [← Int.natAbs_mul] at h3
  omega
/-- the sum of the first k products -/
def dot (a b : List Int) : Nat → Int
  | 0 => 0
  | k + 1 => dot a b k + a.getD k 0 * b.getD k 0
theorem dot_bd {a b : List Int} (ha : coordsB a = true) (hb : coordsB b = true) (k : Nat) : -10000 * (k : Int) ≤ dot a b k ∧ dot a b k ≤ 10000 * (k : Int) := by
  induction k with
  | zero => simp [dot]
  | succ k ih =>
    have := mul_bd (coordsB_at ha k) (coordsB_at hb k)
    simp only [dot]
    omega
/-- the bit of a plane -/
def hbit (d : Int) : Int := if 0 ≤ d then 1 else 0
/-- the hash that the first k planes make -/
def hash (ll : List (List Int)) (m : List Int) : Nat → Int
  | 0 => 0
  | k + 1 => 2 * hash ll m k + hbit (dot (ll.getD k []) m (ll.getD k []).length)
theorem hbit_bd (d : Int) : 0 ≤ hbit d ∧ hbit d ≤ 1 := by unfold hbit; split <;> omega
theorem hash_bd (ll : List (List Int)) (m : List Int) (k : Nat) : 0 ≤ hash ll m k ∧ hash ll m k + 1 ≤ 2 ^ k := by
  induction k with
  | zero => simp [hash]
  | succ k ih =>
    have := hbit_bd (dot (ll.getD k []) m (ll.getD k []).length)
    simp only [hash, Int.pow_succ]
    omega
theorem hash_small (ll : List (List Int)) (m : List Int) {k : Nat} (hk : k ≤ 20) : 0 ≤ hash ll m k ∧ hash ll m k ≤ 1048575 := by
  have h := hash_bd ll m k
  have h2 : (2 : Int) ^ k ≤ 2 ^ 20 := by
    have := Nat.pow_le_pow_right (show 0 < 2 by omega) hk
    exact_mod_cast this
  have h3 : (2 : Int) ^ 20 = 1048576 := rfl
  omega
theorem hash_yes {ll : List (List Int)} {m : List Int} {k : Nat} {x : List Int} {s : Int} (hs : hash ll m k = s) (hx : ll.getD k [] = x) (h : 0 ≤ dot x m x.length) : hash ll m (k + 1) = s * 2 + 1 := by
  simp only [hash, hx, hs, hbit, if_pos h]
  omega
theorem hash_no {ll : List (List Int)} {m : List Int} {k : Nat} {x : List Int} {s : Int} (hs : hash ll m k = s) (hx : ll.getD k [] = x) (h : ¬ 0 ≤ dot x m x.length) : hash ll m (k + 1) = s * 2 := by
  simp only [hash, hx, hs, hbit, if_neg h]
  omega
theorem hash_congr {ll lk : List (List Int)} {m : List Int} {k : Nat} (h : ∀ j, j < k → ll.getD j [] = lk.getD j []) : hash ll m k = hash lk m k := by
  induction k with
  | zero => rfl
  | succ k ih => simp only [hash, ih (fun j hj => h j (by omega)), h k (by omega)]
theorem hash_take (ll : List (List Int)) (m : List Int) (k : Nat) (hk : k ≤ ll.length) : hash (ll.take k) m (ll.take k).length = hash ll m k := by
  have e : (ll.take k).length = k := by simp; omega
  rw [e]
  exact hash_congr fun j hj => by rw [List.getD_eq_getElem?_getD, List.getD_eq_getElem?_getD, List.getElem?_take_of_lt hj]
/-- a bit of a hash -/
theorem hash_shift (ll : List (List Int)) (m : List Int) (k d : Nat) : hash ll m (k + d) / 2 ^ d = hash ll m k := by
  induction d with
  | zero => simp
  | succ d ih =>
    have h := hbit_bd (dot (ll.getD (k + d) []) m (ll.getD (k + d) []).length)
    have h0 := (hash_bd ll m (k + d)).1
    have e : hash ll m (k + (d + 1)) = 2 * hash ll m (k + d) + hbit (dot (ll.getD (k + d) []) m (ll.getD (k + d) []).length) := rfl
    rw [Int.pow_succ, Int.mul_comm, ← Int.ediv_ediv_of_nonneg (by omega), e, show (2 * hash ll m (k + d) + hbit (dot (ll.getD (k + d) []) m (ll.getD (k + d) []).length)) / 2 = hash ll m (k + d) by omega, ih]
theorem hash_odd {ll : List (List Int)} {m : List Int} {k : Nat} (h : 0 ≤ dot (ll.getD k []) m (ll.getD k []).length) : hash ll m (k + 1) % 2 = 1 := by
  simp only [hash, hbit, if_pos h]
  omega
theorem dot_self_nonneg (v : List Int) (k : Nat) : 0 ≤ dot v v k := by
  induction k with
  | zero => simp [dot]
  | succ k ih =>
    simp only [dot]
    have : 0 ≤ v.getD k 0 * v.getD k 0 := by
      rcases Int.le_total 0 (v.getD k 0) with h | h
      · exact Int.mul_nonneg h h
      · have := Int.mul_nonneg (show 0 ≤ -(v.getD k 0) by omega) (show 0 ≤ -(v.getD k 0) by omega)
        rwa [Int.neg_mul_neg] at this
    omega
/-- where no product is negative all bits are 1 -/
theorem hash_full {ll : List (List Int)} {m : List Int} {k : Nat} (h : ∀ j, j < k → 0 ≤ dot (ll.getD j []) m (ll.getD j []).length) : hash ll m k = 2 ^ k - 1 := by
  induction k with
  | zero => simp [hash]
  | succ k ih =>
    simp only [hash, hbit, if_pos (h k (by omega)), ih (fun j hj => h j (by omega)), Int.pow_succ]
    omega
theorem dot_zeros (v m : List Int) (hm : ∀ j, m.getD j 0 = 0) (k : Nat) : dot v m k = 0 := by
  induction k with
  | zero => rfl
  | succ k ih => simp only [dot, ih, hm k, Int.mul_zero, Int.add_zero]
/-- twice a vector -/
def twice (m : List Int) : List Int := m.map fun x => 2 * x
theorem twice_getD (m : List Int) (j : Nat) : (twice m).getD j 0 = 2 * m.getD j 0 := by
  unfold twice
  rw [List.getD_eq_getElem?_getD, List.getD_eq_getElem?_getD, List.getElem?_map]
  cases m[j]? <;> simp
theorem dot_twice (v m : List Int) (k : Nat) : dot v (twice m) k = 2 * dot v m k := by
  induction k with
  | zero => rfl
  | succ k ih =>
    simp only [dot, ih, twice_getD, Int.mul_add]
    rw [Int.mul_left_comm]
theorem hash_twice (ll : List (List Int)) (m : List Int) (k : Nat) : hash ll (twice m) k = hash ll m k := by
  induction k with
  | zero => rfl
  | succ k ih =>
    have e : hbit (2 * dot (ll.getD k []) m (ll.getD k []).length) = hbit (dot (ll.getD k []) m (ll.getD k []).length) := by
      unfold hbit
      split <;> split <;> omega
    simp only [hash, ih, dot_twice, e]
theorem twice_snoc {m : List Int} {k : Nat} (hk : k < m.length) : twice (m.take (k + 1)) = twice (m.take k) ++ [2 * m.getD k 0] := by
  unfold twice
  rw [List.take_succ_eq_append_getElem hk, List.map_append, List.getD_eq_getElem?_getD, List.getElem?_eq_getElem hk]
  rfl
theorem twice_ok {m : List Int} (h : coordsB m = true) : ∀ x ∈ twice m, -9223372036854775808 ≤ x ∧ x ≤ 9223372036854775807 := by
  intro x hx
  unfold twice at hx
  obtain ⟨y, hy, rfl⟩ := List.mem_map.1 hx
  have := coordsB_ok h y hy
  omega
theorem twice_length (m : List Int) : (twice m).length = m.length := by unfold twice; simp
end Go.Proofs.Ytmpoljhdcgdnnaa
