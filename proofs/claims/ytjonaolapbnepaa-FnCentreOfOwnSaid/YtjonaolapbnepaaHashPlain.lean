/-
  Plain facts on products and hashes of vectors.
-/
import Derived.Test.YtjonaolapbnepaaDistPlain
import Derived.Test.YtjonaolapbnepaaLists
namespace Go.Proofs.Ytjonaolapbnepaa
set_option linter.unusedVariables false

theorem mul_bd {x y : Int} (hx : -100 ≤ x ∧ x ≤ 100) (hy : -100 ≤ y ∧ y ≤ 100) : -10000 ≤ x * y ∧ x * y ≤ 10000 := by
  have h1 : x.natAbs ≤ 100 := by omega
  have h2 : y.natAbs ≤ 100 := by omega
  have h3 := Nat.mul_le_mul h1 h2
  rw [← Int.natAbs_mul] at h3
  omega
/-- the sum of the first k products -/
def dot (a b : List Int) : Nat → Int
  | 0 => 0
  | k + 1 => dot a b k + a.getD k 0 * b.getD k 0
theorem dot_bd {a b : List Int} (ha : coordsB a = true) (hb : coordsB b = true) (k : Nat) : -10000 * (k : Int) ≤ dot a b k ∧ dot a b k ≤ 10000 * (k : Int) := by
  induction k with
  | zero => simp [dot]
  | succ k ih =>
    have := mul_bd (coordsB_at ha k) (coordsB_at hb k)
    simp only [dot]
    omega
/-- the bit of a plane -/
def hbit (d : Int) : Int := if 0 ≤ d then 1 else 0
/-- the hash that the first k planes make -/
def hash (ll : List (List Int)) (m : List Int) : Nat → Int
  | 0 => 0
  | k + 1 => 2 * hash ll m k + hbit (dot (ll.getD k []) m (ll.getD k []).length)
theorem hbit_bd (d : Int) : 0 ≤ hbit d ∧ hbit d ≤ 1 := by unfold hbit; split <;> omega
theorem hash_bd (ll : List (List Int)) (m : List Int) (k : Nat) : 0 ≤ hash ll m k ∧ hash ll m k + 1 ≤ 2 ^ k := by
  induction k with
  | zero => simp [hash]
  | succ k ih =>
    have := hbit_bd (dot (ll.getD k []) m (ll.getD k []).length)
    simp only [hash, Int.pow_succ]
    omega
theorem hash_small (ll : List (List Int)) (m : List Int) {k : Nat} (hk : k ≤ 20) : 0 ≤ hash ll m k ∧ hash ll m k ≤ 1048575 := by
  have h := hash_bd ll m k
  have h2 : (2 : Int) ^ k ≤ 2 ^ 20 := by
    have := Nat.pow_le_pow_right (show 0 < 2 by omega) hk
    exact_mod_cast this
  have h3 : (2 : Int) ^ 20 = 1048576 := rfl
  omega
theorem hash_yes {ll : List (List Int)} {m : List Int} {k : Nat} {x : List Int} {s : Int} (hs : hash ll m k = s) (hx : ll.getD k [] = x) (h : 0 ≤ dot x m x.length) : hash ll m (k + 1) = s * 2 + 1 := by
  simp only [hash, hx, hs, hbit, if_pos h]
  omega
theorem hash_no {ll : List (List Int)} {m : List Int} {k : Nat} {x : List Int} {s : Int} (hs : hash ll m k = s) (hx : ll.getD k [] = x) (h : ¬ 0 ≤ dot x m x.length) : hash ll m (k + 1) = s * 2 := by
  simp only [hash, hx, hs, hbit, if_neg h]
  omega
end Go.Proofs.Ytjonaolapbnepaa
