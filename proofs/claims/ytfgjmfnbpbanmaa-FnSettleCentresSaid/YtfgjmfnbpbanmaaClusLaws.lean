/-
  Plain laws on clusters, and AssignItems as its caller reads it.
-/
import Derived.Test.YtfgjmfnbpbanmaaClusWalks
namespace Go.Proofs.Ytfgjmfnbpbanmaa
open Go.RowKit
set_option linter.unusedVariables false

theorem near_best {cs : List (List Int)} (m : List Int) {j : Nat} (hj : j < cs.length) : sqd (cs.getD (near cs m) []) m ≤ sqd (cs.getD j []) m := (best_best cs m cs.length j hj).1
theorem sqd_cen {cs : List (List Int)} (h : cenB cs 4 = true) {j : Nat} (hj : j < cs.length) (m : List Int) : sqd (cs.getD j []) m = dst 3 (cs.getD j []) m 4 := by
  have := vecB_len (cenB_at h hj)
  unfold sqd
  rw [show (cs.getD j []).length = 4 by omega]
theorem sprd_le {cs : List (List Int)} {ll : List It} (h : cenB cs 4 = true) {k j : Nat} (hj : j < cs.length) : sprd cs ll k ≤ dst 3 (cs.getD j []) (ll.getD k It.no).pos 4 := by
  have h1 := near_best (ll.getD k It.no).pos hj
  rw [sqd_cen h hj, sqd_cen h (show near cs (ll.getD k It.no).pos < cs.length from asg_lt h ll k)] at h1
  exact h1
theorem cenB_one {cs : List (List Int)} (h : cenB cs 4 = true) : cenB (cs.take 1) 4 = true :=
  cenB_sub h (fun x hx => List.mem_of_mem_take hx) (by have := (cenB_len h).1; simp; omega) (by simp; omega)
theorem asg_one {cs : List (List Int)} (h : cenB cs 4 = true) (ll : List It) (k : Nat) : asg (cs.take 1) ll k = 0 := by
  have := asg_lt (cenB_one h) ll k
  have : (cs.take 1).length ≤ 1 := by simp; omega
  omega
theorem asgL_one {cs : List (List Int)} (h : cenB cs 4 = true) (ll : List It) {k n : Nat} (hk : k < n) : (asgL (cs.take 1) ll n).getD k 0 = 0 := by
  rw [asgL_get hk, asg_one h]; rfl
theorem getD_take_one {α : Type} (l : List α) (d : α) : (l.take 1).getD 0 d = l.getD 0 d := by
  rw [List.getD_eq_getElem?_getD, List.getD_eq_getElem?_getD, List.getElem?_take_of_lt (by omega)]
theorem spr_one {cs : List (List Int)} (h : cenB cs 4 = true) (ll : List It) (k : Nat) : spr cs ll k ≤ spr (cs.take 1) ll k := by
  induction k with
  | zero => exact Int.le_refl _
  | succ k ih =>
    have h1 := sprd_le (ll := ll) h (k := k) (j := 0) (by have := (cenB_len h).1; omega)
    have h2 : sprd (cs.take 1) ll k = dst 3 (cs.getD 0 []) (ll.getD k It.no).pos 4 := by
      unfold sprd; rw [asg_one h, getD_take_one]
    rw [spr_succ, spr_succ]
    omega
theorem sprV_one {cs : List (List Int)} {ll : List It} (h : csB cs ll = true) : sprV (cs.take 1) ll ≥ sprV cs ll ∧ sprV cs [] = 0 := by
  have h1 : csB (cs.take 1) ll = true := csB_mk (cenB_one (csB_cen h)) (csB_store h)
  have h2 : csB cs [] = true := csB_mk (csB_cen h) (by decide)
  rw [sprV_yes h, sprV_yes h1, sprV_yes h2]
  exact ⟨spr_one (csB_cen h) ll _, rfl⟩
/-- the least square of the distances of the first k centres -/
def minTo (cs : List (List Int)) (m : List Int) : Nat → Int
  | 0 => 1000000
  | k + 1 => if dst 3 (cs.getD k []) m 4 < minTo cs m k then dst 3 (cs.getD k []) m 4 else minTo cs m k
theorem minTo_succ (cs : List (List Int)) (m : List Int) (k : Nat) : minTo cs m (k + 1) = if dst 3 (cs.getD k []) m 4 < minTo cs m k then dst 3 (cs.getD k []) m 4 else minTo cs m k := rfl
theorem minTo_eq {cs : List (List Int)} (h : cenB cs 4 = true) {m : List Int} (hm : vecB m 4 = true) {k : Nat} (hk : k < cs.length) : minTo cs m (k + 1) = sqd (cs.getD (best cs m (k + 1)) []) m := by
  induction k with
  | zero =>
    have hb := dst_bd 3 (vecB_coords (cenB_at h hk)) (vecB_coords hm) 4
    have e0 : best cs m 0 = 0 := rfl
    have h1 : best cs m 1 = 0 := by
      by_cases hh : sqd (cs.getD 0 []) m < sqd (cs.getD (best cs m 0) []) m
      · rw [best_yes hh]
      · rw [best_not hh]; rfl
    rw [h1, sqd_cen h hk, minTo_succ, if_pos (by show _ < (1000000 : Int); omega)]
  | succ k ih =>
    have hi := ih (by omega)
    rw [minTo_succ, hi, ← sqd_cen h hk]
    by_cases hh : sqd (cs.getD (k + 1) []) m < sqd (cs.getD (best cs m (k + 1)) []) m
    · rw [if_pos hh, best_yes hh]
    · rw [if_neg hh, best_not hh]
theorem minTo_all {cs : List (List Int)} {ll : List It} (h : csB cs ll = true) {k : Nat} (hk : k < ll.length) : minTo cs (ll.getD k It.no).pos cs.length = sprd cs ll k := by
  have hl := (cenB_len (csB_cen h)).1
  have e := minTo_eq (csB_cen h) (storeB_vec (csB_store h) hk) (k := cs.length - 1) (by omega)
  rw [show cs.length - 1 + 1 = cs.length by omega] at e
  rw [e]
  show sqd (cs.getD (near cs (ll.getD k It.no).pos) []) _ = _
  rw [sqd_cen (csB_cen h) (show near cs (ll.getD k It.no).pos < cs.length from asg_lt (csB_cen h) ll k)]
  rfl
theorem minTo_bd {cs : List (List Int)} (h : cenB cs 4 = true) {m : List Int} (hm : vecB m 4 = true) {k : Nat} (hk : k ≤ cs.length) : 0 ≤ minTo cs m k ∧ minTo cs m k ≤ 1000000 := by
  induction k with
  | zero => show (0 : Int) ≤ 1000000 ∧ (1000000 : Int) ≤ 1000000; omega
  | succ k ih =>
    have h1 := ih (by omega)
    have hb := dst_bd 3 (vecB_coords (cenB_at h (show k < cs.length by omega))) (vecB_coords hm) 4
    rw [minTo_succ]
    split <;> omega
/-- the vectors of the first k items -/
def posL (ll : List It) (k : Nat) : List (List Int) := (List.range k).map fun j => (ll.getD j It.no).pos
theorem posL_length (ll : List It) (k : Nat) : (posL ll k).length = k := by unfold posL; simp
theorem posL_succ (ll : List It) (k : Nat) : posL ll (k + 1) = posL ll k ++ [(ll.getD k It.no).pos] := by
  unfold posL; rw [List.range_succ, List.map_append]; rfl
theorem posL_get (ll : List It) {k n : Nat} (hk : k < n) : (posL ll n).getD k [] = (ll.getD k It.no).pos := by
  unfold posL
  rw [List.getD_eq_getElem?_getD, List.getElem?_map, List.getElem?_range hk]
  rfl
theorem posL_vecs {ll : List It} (h : storeB ll = true) {n : Nat} (hn : n ≤ ll.length) : vecsB (posL ll n) 4 = true := by
  unfold vecsB posL
  rw [List.all_eq_true]
  intro x hx
  obtain ⟨j, hj, rfl⟩ := List.mem_map.1 hx
  exact storeB_vec h (by have := List.mem_range.1 hj; omega)
theorem posL_cen {ll : List It} (h : storeB ll = true) (h1 : 1 ≤ ll.length) (h4 : ll.length ≤ 4) : cenB (posL ll ll.length) 4 = true :=
  cenB_mk (posL_vecs h (Nat.le_refl _)) (by rw [posL_length]; omega) (by rw [posL_length]; omega)
theorem spr_own {ll : List It} (h : storeB ll = true) (h1 : 1 ≤ ll.length) (h4 : ll.length ≤ 4) {k : Nat} (hk : k ≤ ll.length) : spr (posL ll ll.length) ll k = 0 := by
  induction k with
  | zero => rfl
  | succ k ih =>
    have hc := posL_cen h h1 h4
    have hb := sprd_bd (csB_mk hc h) (show k < ll.length by omega)
    have hle := sprd_le (ll := ll) hc (k := k) (j := k) (by rw [posL_length]; omega)
    rw [posL_get ll (by omega), dst3_self] at hle
    rw [spr_succ, ih (by omega)]
    omega
theorem sprV_own {ll : List It} (h : storeB ll = true) (h1 : 1 ≤ ll.length) (h4 : ll.length ≤ 4) : sprV (posL ll ll.length) ll = 0 := by
  rw [sprV_yes (csB_mk (posL_cen h h1 h4) h)]
  exact spr_own h h1 h4 (Nat.le_refl _)
theorem centreV_asg {cs : List (List Int)} {ll : List It} (h : csB cs ll = true) {k : Nat} (hk : k < ll.length) : centreV cs (ll.getD k It.no).pos = (asg cs ll k : Int) :=
  centreV_yes (csB_cen h) (storeB_vec (csB_store h) hk)
theorem implAssignItems_read (w : World) (lo hi lo' hi' : Nat) (a b : Option Addr) (cap cap' : Nat) (cs : List (List Int)) (ll : List It) (hA : Lists w lo hi a cs) (hI : Items w lo' hi' b ll) (hv : csB cs ll = true) :
    Calls Try.prog 24 #[.slice a cs.length cap, .slice b ll.length cap'] w (ReadInts w (asgL cs ll ll.length)) :=
  (implAssignItems_yes w lo hi lo' hi' a b cap cap' cs ll hA hI hv).mono fun _ _ h => h.read (fun x hx => by have := asgL_ok (csB_cen hv) ll _ x hx; omega) (by rw [asgL_length]; exact hI.len)
end Go.Proofs.Ytfgjmfnbpbanmaa
