/-
  Plain facts on the lists of keys behind the centres.
-/
import Derived.Test.YtmpoljhdcgdnnaaClusPlain
namespace Go.Proofs.Ytmpoljhdcgdnnaa
set_option linter.unusedVariables false

/-- the keys of those of the first k items whose centre is c -/
def ownK (cs : List (List Int)) (ll : List It) (c : Nat) : Nat → List Int
  | 0 => []
  | k + 1 => if asg cs ll k = c then ownK cs ll c k ++ [(ll.getD k It.no).key] else ownK cs ll c k
theorem ownK_yes {cs : List (List Int)} {ll : List It} {c k : Nat} (h : asg cs ll k = c) : ownK cs ll c (k + 1) = ownK cs ll c k ++ [(ll.getD k It.no).key] := by
  show (if _ then _ else _) = _
  rw [if_pos h]
theorem ownK_not {cs : List (List Int)} {ll : List It} {c k : Nat} (h : ¬ asg cs ll k = c) : ownK cs ll c (k + 1) = ownK cs ll c k := by
  show (if _ then _ else _) = _
  rw [if_neg h]
/-- .. for the first m centres -/
def lstT (cs : List (List Int)) (ll : List It) (k m : Nat) : List (List Int) := (List.range m).map fun c => ownK cs ll c k
theorem lstT_length (cs : List (List Int)) (ll : List It) (k m : Nat) : (lstT cs ll k m).length = m := by unfold lstT; simp
theorem lstT_get {cs : List (List Int)} {ll : List It} {k m c : Nat} (h : c < m) : (lstT cs ll k m).getD c [] = ownK cs ll c k := by
  unfold lstT
  rw [List.getD_eq_getElem?_getD, List.getElem?_map, List.getElem?_range h]
  rfl
theorem lstT_snoc (cs : List (List Int)) (ll : List It) (k m : Nat) : lstT cs ll k (m + 1) = lstT cs ll k m ++ [ownK cs ll m k] := by
  unfold lstT; rw [List.range_succ, List.map_append]; rfl
theorem lstT_zero (cs : List (List Int)) (ll : List It) (m : Nat) : lstT cs ll 0 m = List.replicate m [] := by
  refine List.ext_getElem? fun j => ?_
  unfold lstT
  by_cases hj : j < m
  · rw [List.getElem?_map, List.getElem?_range hj, List.getElem?_replicate, if_pos hj]; rfl
  · rw [List.getElem?_eq_none (by simp; omega), List.getElem?_eq_none (by simp; omega)]
theorem ext_getD {α : Type} {l m : List α} (d : α) (hl : l.length = m.length) (h : ∀ j, j < l.length → l.getD j d = m.getD j d) : l = m := by
  refine List.ext_getElem hl fun j h1 h2 => ?_
  have := h j h1
  rw [List.getD_eq_getElem?_getD, List.getD_eq_getElem?_getD, List.getElem?_eq_getElem h1, List.getElem?_eq_getElem h2] at this
  exact this
theorem gdSetS {α : Type} {l : List α} {k : Nat} {x d : α} (hk : k < l.length) : (l.set k x).getD k d = x := by
  rw [List.getD_eq_getElem?_getD, List.getElem?_set_self hk]; rfl
theorem gdSetN {α : Type} {l : List α} {k j : Nat} {x d : α} (hk : k ≠ j) : (l.set k x).getD j d = l.getD j d := by
  rw [List.getD_eq_getElem?_getD, List.getElem?_set_ne hk, List.getD_eq_getElem?_getD]
theorem gdAppL {α : Type} {l m : List α} {k : Nat} (d : α) (h : k < l.length) : (l ++ m).getD k d = l.getD k d := by
  rw [List.getD_eq_getElem?_getD, List.getD_eq_getElem?_getD, List.getElem?_append_left h]
theorem lstT_step {cs : List (List Int)} {ll : List It} {k m : Nat} (h : asg cs ll k < m) : lstT cs ll (k + 1) m = (lstT cs ll k m).set (asg cs ll k) (ownK cs ll (asg cs ll k) k ++ [(ll.getD k It.no).key]) := by
  refine ext_getD [] (by simp [lstT_length]) fun j hj => ?_
  rw [lstT_length] at hj
  rw [lstT_get hj]
  by_cases e : asg cs ll k = j
  · subst e
    rw [ownK_yes rfl, gdSetS (by rw [lstT_length]; exact hj)]
  · rw [ownK_not e, gdSetN e, lstT_get hj]
theorem ownK_len (cs : List (List Int)) (ll : List It) (c k : Nat) : (ownK cs ll c k).length ≤ k := by
  induction k with
  | zero => exact Nat.le_refl _
  | succ k ih =>
    by_cases h : asg cs ll k = c
    · rw [ownK_yes h]; simp; omega
    · rw [ownK_not h]; omega
/-- each entry is the key of an item whose centre is c -/
theorem ownK_mem {cs : List (List Int)} {ll : List It} {c k : Nat} {x : Int} (h : x ∈ ownK cs ll c k) : ∃ j, j < k ∧ asg cs ll j = c ∧ (ll.getD j It.no).key = x := by
  induction k with
  | zero => simp [ownK] at h
  | succ k ih =>
    by_cases e : asg cs ll k = c
    · rw [ownK_yes e, List.mem_append, List.mem_singleton] at h
      rcases h with h | h
      · obtain ⟨j, h1, h2⟩ := ih h
        exact ⟨j, by omega, h2⟩
      · exact ⟨k, by omega, e, h.symm⟩
    · rw [ownK_not e] at h
      obtain ⟨j, h1, h2⟩ := ih h
      exact ⟨j, by omega, h2⟩
theorem mem_ownK {cs : List (List Int)} {ll : List It} {k j : Nat} (h : j < k) : (ll.getD j It.no).key ∈ ownK cs ll (asg cs ll j) k := by
  induction k with
  | zero => omega
  | succ k ih =>
    by_cases hj : j = k
    · subst hj
      rw [ownK_yes rfl]; simp
    · have := ih (by omega)
      by_cases e : asg cs ll k = asg cs ll j
      · rw [ownK_yes e]; exact List.mem_append_left _ this
      · rw [ownK_not e]; exact this
theorem ownK_ok {cs : List (List Int)} {ll : List It} (h : storeB ll = true) {c k : Nat} (hk : k ≤ ll.length) : ∀ x ∈ ownK cs ll c k, 1 ≤ x ∧ x ≤ 99 := fun x hx => by
  obtain ⟨j, h1, _, h3⟩ := ownK_mem hx
  have := itemB_key (storeB_at h (show j < ll.length by omega))
  omega
/-- the keys ascend -/
theorem ownK_asc {cs : List (List Int)} {ll : List It} (h : storeB ll = true) {c k : Nat} (hk : k ≤ ll.length) : ∀ i, i + 1 < (ownK cs ll c k).length → (ownK cs ll c k).getD i 0 < (ownK cs ll c k).getD (i + 1) 0 := by
  induction k with
  | zero => intro i hi; simp [ownK] at hi
  | succ k ih =>
    intro i hi
    have ih' := ih (by omega)
    by_cases e : asg cs ll k = c
    · rw [ownK_yes e] at hi ⊢
      by_cases hl : i + 1 < (ownK cs ll c k).length
      · have := ih' i hl
        rw [gdAppL _ (by omega), gdAppL _ hl]
        exact this
      · have hl' : i + 1 = (ownK cs ll c k).length := by simp at hi; omega
        have hi' : i < (ownK cs ll c k).length := by omega
        have hm : (ownK cs ll c k).getD i 0 ∈ ownK cs ll c k := getD_mem 0 hi'
        obtain ⟨j, q1, _, q3⟩ := ownK_mem hm
        have := storeB_asc h k (by omega) j q1
        rw [hl', getD_last, gdAppL _ hi']
        omega
    · rw [ownK_not e] at hi ⊢
      exact ih' i hi
/-- how many keys the first m lists have -/
def sumK (cs : List (List Int)) (ll : List It) (k : Nat) : Nat → Nat
  | 0 => 0
  | m + 1 => sumK cs ll k m + (ownK cs ll m k).length
theorem sumK_zero (cs : List (List Int)) (ll : List It) (m : Nat) : sumK cs ll 0 m = 0 := by
  induction m with
  | zero => rfl
  | succ m ih => show sumK cs ll 0 m + 0 = 0; omega
theorem sumK_step (cs : List (List Int)) (ll : List It) (k m : Nat) : sumK cs ll (k + 1) m = sumK cs ll k m + if asg cs ll k < m then 1 else 0 := by
  induction m with
  | zero => simp [sumK]
  | succ m ih =>
    show sumK cs ll (k + 1) m + (ownK cs ll m (k + 1)).length = sumK cs ll k m + (ownK cs ll m k).length + _
    rw [ih]
    by_cases e : asg cs ll k = m
    · rw [ownK_yes e, if_neg (by omega), if_pos (by omega)]; simp; omega
    · rw [ownK_not e]
      by_cases h2 : asg cs ll k < m
      · rw [if_pos h2, if_pos (by omega)]; omega
      · rw [if_neg h2, if_neg (by omega)]; omega
theorem sumK_all {cs : List (List Int)} (h : cenB cs 4 = true) (ll : List It) (k : Nat) : sumK cs ll k cs.length = k := by
  induction k with
  | zero => exact sumK_zero _ _ _
  | succ k ih => rw [sumK_step, ih, if_pos (asg_lt h ll k)]
theorem sumK_le (cs : List (List Int)) (ll : List It) (k m : Nat) : sumK cs ll k m ≤ k * m := by
  induction m with
  | zero => exact Nat.le_refl _
  | succ m ih =>
    have := ownK_len cs ll m k
    show sumK cs ll k m + (ownK cs ll m k).length ≤ k * (m + 1)
    rw [Nat.mul_succ]
    omega
/-- what ListsOf returns -/
def lstV (cs : List (List Int)) (ll : List It) : List (List Int) := if csB cs ll = true then lstT cs ll ll.length cs.length else []
theorem lstV_yes {cs : List (List Int)} {ll : List It} (h : csB cs ll = true) : lstV cs ll = lstT cs ll ll.length cs.length := if_pos h
theorem lstV_no {cs : List (List Int)} {ll : List It} (h : csB cs ll = false) : lstV cs ll = [] := if_neg (by rw [h]; simp)
end Go.Proofs.Ytmpoljhdcgdnnaa
