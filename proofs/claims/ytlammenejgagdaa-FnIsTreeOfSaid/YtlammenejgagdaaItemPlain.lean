/-
  Plain facts on items and stores: what the validity tests say of lists of items.
-/
import Derived.Test.YtlammenejgagdaaLists
namespace Go.Proofs.Ytlammenejgagdaa
set_option linter.unusedVariables false

/-- an item: its key, its vector, its tags -/
structure It where
  key : Int
  pos : List Int
  tags : Int
def It.no : It := ⟨0, [], 0⟩
/-- a valid item -/
def itemB (x : It) : Bool := (decide (1 ≤ x.key) && decide (x.key ≤ 99)) && (vecB x.pos 4 && (decide (0 ≤ x.tags) && decide (x.tags ≤ 15)))
theorem itemB_vec {x : It} (h : itemB x = true) : vecB x.pos 4 = true := by
  unfold itemB at h; simp only [Bool.and_eq_true] at h; exact h.2.1
theorem itemB_key {x : It} (h : itemB x = true) : 1 ≤ x.key ∧ x.key ≤ 99 := by
  unfold itemB at h; simp only [Bool.and_eq_true, decide_eq_true_eq] at h; exact h.1
theorem itemB_tags {x : It} (h : itemB x = true) : 0 ≤ x.tags ∧ x.tags ≤ 15 := by
  unfold itemB at h; simp only [Bool.and_eq_true, decide_eq_true_eq] at h; exact h.2.2
theorem itemB_mk {x : It} (h1 : 1 ≤ x.key ∧ x.key ≤ 99) (h2 : vecB x.pos 4 = true) (h3 : 0 ≤ x.tags ∧ x.tags ≤ 15) : itemB x = true := by
  unfold itemB; rw [decide_eq_true h1.1, decide_eq_true h1.2, h2, decide_eq_true h3.1, decide_eq_true h3.2]; rfl
theorem itemB_no {x : It} (h : ¬ ((1 ≤ x.key ∧ x.key ≤ 99) ∧ vecB x.pos 4 = true ∧ 0 ≤ x.tags ∧ x.tags ≤ 15)) : itemB x = false := by
  cases hc : itemB x with
  | false => rfl
  | true => exact absurd ⟨itemB_key hc, itemB_vec hc, itemB_tags hc⟩ h

/-- item number k is valid, and its key is greater than that of the one before -/
def goodAt (ll : List It) (k : Nat) : Bool := itemB (ll.getD k It.no) && (k == 0 || decide ((ll.getD (k - 1) It.no).key < (ll.getD k It.no).key))
/-- .. the first k items -/
def goodTo (ll : List It) (k : Nat) : Bool := (List.range k).all (goodAt ll)
/-- a valid store -/
def storeB (ll : List It) : Bool := goodTo ll ll.length && decide ((ll.length : Int) ≤ 16)
theorem goodTo_zero (ll : List It) : goodTo ll 0 = true := rfl
theorem goodTo_succ (ll : List It) (k : Nat) : goodTo ll (k + 1) = (goodTo ll k && goodAt ll k) := by
  unfold goodTo; rw [List.range_succ, List.all_append]; simp
theorem goodTo_at {ll : List It} {n : Nat} (h : goodTo ll n = true) {k : Nat} (hk : k < n) : goodAt ll k = true := by
  unfold goodTo at h
  exact List.all_eq_true.1 h k (List.mem_range.2 hk)
theorem goodTo_no {ll : List It} {n k : Nat} (hk : k < n) (h : goodAt ll k = false) : goodTo ll n = false := by
  cases hc : goodTo ll n with
  | false => rfl
  | true => rw [goodTo_at hc hk] at h; cases h
theorem goodAt_item {ll : List It} {k : Nat} (h : goodAt ll k = true) : itemB (ll.getD k It.no) = true := by
  unfold goodAt at h; simp only [Bool.and_eq_true] at h; exact h.1
theorem goodAt_lt {ll : List It} {k : Nat} (h : goodAt ll k = true) (h0 : 0 < k) : (ll.getD (k - 1) It.no).key < (ll.getD k It.no).key := by
  unfold goodAt at h
  simp only [Bool.and_eq_true, Bool.or_eq_true, beq_iff_eq, decide_eq_true_eq] at h
  omega
theorem goodAt_first {ll : List It} (h : itemB (ll.getD 0 It.no) = true) : goodAt ll 0 = true := by
  unfold goodAt; rw [h]; rfl
theorem goodAt_mk {ll : List It} {k : Nat} (h : itemB (ll.getD k It.no) = true) (hlt : (ll.getD (k - 1) It.no).key < (ll.getD k It.no).key) : goodAt ll k = true := by
  unfold goodAt; rw [h, decide_eq_true hlt]; simp
theorem goodAt_no1 {ll : List It} {k : Nat} (h : itemB (ll.getD k It.no) = false) : goodAt ll k = false := by
  unfold goodAt; rw [h]; rfl
theorem goodAt_no2 {ll : List It} {k : Nat} (h0 : 0 < k) (hlt : ¬ (ll.getD (k - 1) It.no).key < (ll.getD k It.no).key) : goodAt ll k = false := by
  cases hc : goodAt ll k with
  | false => rfl
  | true => exact absurd (goodAt_lt hc h0) hlt
theorem storeB_good {ll : List It} (h : storeB ll = true) : goodTo ll ll.length = true := by
  unfold storeB at h; simp only [Bool.and_eq_true] at h; exact h.1
theorem storeB_len {ll : List It} (h : storeB ll = true) : ll.length ≤ 16 := by
  unfold storeB at h; simp only [Bool.and_eq_true, decide_eq_true_eq] at h; omega
theorem storeB_at {ll : List It} (h : storeB ll = true) {k : Nat} (hk : k < ll.length) : itemB (ll.getD k It.no) = true := goodAt_item (goodTo_at (storeB_good h) hk)
theorem storeB_vec {ll : List It} (h : storeB ll = true) {k : Nat} (hk : k < ll.length) : vecB (ll.getD k It.no).pos 4 = true := itemB_vec (storeB_at h hk)
theorem storeB_mk {ll : List It} (h : goodTo ll ll.length = true) (hl : ll.length ≤ 16) : storeB ll = true := by
  unfold storeB; rw [h, decide_eq_true (by omega)]; rfl
theorem storeB_no_good {ll : List It} (h : goodTo ll ll.length = false) : storeB ll = false := by
  unfold storeB; rw [h]; rfl
theorem storeB_no_len {ll : List It} (h : ¬ ll.length ≤ 16) : storeB ll = false := by
  unfold storeB; rw [decide_eq_false (by omega)]; simp
theorem storeB_asc {ll : List It} (h : storeB ll = true) : ∀ j, j < ll.length → ∀ i, i < j → (ll.getD i It.no).key < (ll.getD j It.no).key := by
  intro j
  induction j with
  | zero => intro _ i hi; omega
  | succ j ih =>
    intro hj i hi
    have h1 := goodAt_lt (goodTo_at (storeB_good h) hj) (by omega)
    rw [Nat.add_sub_cancel] at h1
    by_cases hij : i = j
    · subst hij; exact h1
    · have := ih (by omega) i (by omega)
      omega
/-- what one item more says -/
theorem good_step {ll : List It} {k : Nat} (hlt : k < ll.length) (hg : goodTo ll k = true) {x : It} (ex : ll.getD k It.no = x) :
    (itemB x = false → storeB ll = false) ∧ (k = 0 → itemB x = true → goodTo ll (k + 1) = true) ∧
    (∀ p, 0 < k → (ll.getD (k - 1) It.no).key = p → (itemB x = true → p < x.key → goodTo ll (k + 1) = true) ∧ (¬ p < x.key → storeB ll = false)) := by
  subst ex
  refine ⟨fun h => storeB_no_good (goodTo_no hlt (goodAt_no1 h)), fun h0 h => ?_, fun p h0 hp => ⟨fun h h2 => ?_, fun h => storeB_no_good (goodTo_no hlt (goodAt_no2 h0 (by rw [hp]; exact h)))⟩⟩
  · subst h0; rw [goodTo_succ, hg]; exact goodAt_first h
  · rw [goodTo_succ, hg]; exact goodAt_mk h (by rw [hp]; exact h2)
end Go.Proofs.Ytlammenejgagdaa
