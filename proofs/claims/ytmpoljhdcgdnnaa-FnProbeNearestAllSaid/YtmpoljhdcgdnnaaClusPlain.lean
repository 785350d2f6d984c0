/-
  Plain facts on clusters: which centre each item has, how far it is.
-/
import Derived.Test.YtmpoljhdcgdnnaaItemPlain
import Derived.Test.YtmpoljhdcgdnnaaCentrePlain
namespace Go.Proofs.Ytmpoljhdcgdnnaa
set_option linter.unusedVariables false

/-- the arguments of the functions on clusters are valid -/
def csB (cs : List (List Int)) (ll : List It) : Bool := cenB cs 4 && storeB ll
theorem csB_cen {cs : List (List Int)} {ll : List It} (h : csB cs ll = true) : cenB cs 4 = true := by
  unfold csB at h; simp only [Bool.and_eq_true] at h; exact h.1
theorem csB_store {cs : List (List Int)} {ll : List It} (h : csB cs ll = true) : storeB ll = true := by
  unfold csB at h; simp only [Bool.and_eq_true] at h; exact h.2
theorem csB_mk {cs : List (List Int)} {ll : List It} (h1 : cenB cs 4 = true) (h2 : storeB ll = true) : csB cs ll = true := by
  unfold csB; rw [h1, h2]; rfl
theorem csB_cases {cs : List (List Int)} {ll : List It} (h : csB cs ll = false) : cenB cs 4 = false ∨ (cenB cs 4 = true ∧ storeB ll = false) := by
  unfold csB at h
  cases h1 : cenB cs 4
  · exact .inl rfl
  · rw [h1] at h; exact .inr ⟨rfl, by simpa using h⟩
/-- the centre of item number k -/
def asg (cs : List (List Int)) (ll : List It) (k : Nat) : Nat := near cs (ll.getD k It.no).pos
/-- the centres of the first k items -/
def asgL (cs : List (List Int)) (ll : List It) (k : Nat) : List Int := (List.range k).map fun j => (asg cs ll j : Int)
theorem asgL_succ (cs : List (List Int)) (ll : List It) (k : Nat) : asgL cs ll (k + 1) = asgL cs ll k ++ [(asg cs ll k : Int)] := by
  unfold asgL; rw [List.range_succ, List.map_append]; rfl
theorem asgL_length (cs : List (List Int)) (ll : List It) (k : Nat) : (asgL cs ll k).length = k := by
  unfold asgL; simp
theorem asgL_get {cs : List (List Int)} {ll : List It} {k n : Nat} (hk : k < n) : (asgL cs ll n).getD k 0 = (asg cs ll k : Int) := by
  unfold asgL
  rw [List.getD_eq_getElem?_getD, List.getElem?_map, List.getElem?_range hk]
  rfl
theorem asg_lt {cs : List (List Int)} (h : cenB cs 4 = true) (ll : List It) (k : Nat) : asg cs ll k < cs.length := near_lt _ (cenB_len h).1
theorem asgL_ok {cs : List (List Int)} (h : cenB cs 4 = true) (ll : List It) (n : Nat) : ∀ x ∈ asgL cs ll n, 0 ≤ x ∧ x ≤ 4 := fun x hx => by
  unfold asgL at hx
  obtain ⟨c, hc, rfl⟩ := List.mem_map.1 hx
  have := asg_lt h ll c
  have := (cenB_len h).2
  omega
/-- the square of the distance of item number k to its centre -/
def sprd (cs : List (List Int)) (ll : List It) (k : Nat) : Int := dst 3 (cs.getD (asg cs ll k) []) (ll.getD k It.no).pos 4
/-- .. added up over the first k items -/
def spr (cs : List (List Int)) (ll : List It) : Nat → Int
  | 0 => 0
  | k + 1 => spr cs ll k + sprd cs ll k
theorem spr_succ (cs : List (List Int)) (ll : List It) (k : Nat) : spr cs ll (k + 1) = spr cs ll k + sprd cs ll k := rfl
theorem sprd_bd {cs : List (List Int)} {ll : List It} (h : csB cs ll = true) {k : Nat} (hk : k < ll.length) : 0 ≤ sprd cs ll k ∧ sprd cs ll k ≤ 160000 :=
  dst_bd 3 (vecB_coords (cenB_at (csB_cen h) (asg_lt (csB_cen h) ll k))) (vecB_coords (storeB_vec (csB_store h) hk)) 4
theorem spr_bd {cs : List (List Int)} {ll : List It} (h : csB cs ll = true) {k : Nat} (hk : k ≤ ll.length) : 0 ≤ spr cs ll k ∧ spr cs ll k ≤ 160000 * k := by
  induction k with
  | zero => simp [spr]
  | succ k ih =>
    have h1 := ih (by omega)
    have h2 := sprd_bd h (show k < ll.length by omega)
    rw [spr_succ]
    omega
/-- what SpreadOf returns -/
def sprV (cs : List (List Int)) (ll : List It) : Int := if csB cs ll then spr cs ll ll.length else -1
theorem sprV_yes {cs : List (List Int)} {ll : List It} (h : csB cs ll = true) : sprV cs ll = spr cs ll ll.length := by unfold sprV; rw [h]; rfl
theorem sprV_no {cs : List (List Int)} {ll : List It} (h : csB cs ll = false) : sprV cs ll = -1 := by unfold sprV; rw [h]; rfl
end Go.Proofs.Ytmpoljhdcgdnnaa
