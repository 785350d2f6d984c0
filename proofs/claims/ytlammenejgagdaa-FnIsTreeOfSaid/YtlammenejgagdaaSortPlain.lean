/-
  Plain facts on sorting the numbers of centres by insertion.
-/
import Derived.Test.YtlammenejgagdaaHitPlain
namespace Go.Proofs.Ytlammenejgagdaa
set_option linter.unusedVariables false

/-- how two numbers compare -/
def cmpI (a b : Int) : Int := if a < b then -1 else if b < a then 1 else 0
theorem cmpI_neg {a b : Int} : cmpI a b < 0 ↔ a < b := by unfold cmpI; split; omega; split <;> omega
/-- the numbers from i on, below n -/
def upI (i n : Nat) : List Int := (List.range (n - i)).map fun q => ((i + q : Nat) : Int)
theorem upI_length (i n : Nat) : (upI i n).length = n - i := by unfold upI; simp
theorem upI_cons {i n : Nat} (h : i < n) : upI i n = (i : Int) :: upI (i + 1) n := by
  unfold upI
  rw [show n - i = (n - (i + 1)) + 1 by omega, List.range_succ_eq_map, List.map_cons, List.map_map]
  congr 1
  refine List.map_congr_left fun q _ => ?_
  show ((i + (q + 1) : Nat) : Int) = ((i + 1 + q : Nat) : Int)
  omega
/-- the numbers of the first i centres, in order -/
def keyT (cs : List (List Int)) (m : List Int) (i : Nat) : List Int := (srtT cs m i).map Ht.key
theorem keyT_length (cs : List (List Int)) (m : List Int) (i : Nat) : (keyT cs m i).length = i := by unfold keyT; rw [List.length_map, srtT_length]
theorem keyT_get {cs : List (List Int)} {m : List Int} {i q : Nat} (h : q < i) : ∃ j, j < i ∧ (keyT cs m i).getD q 0 = (j : Int) ∧ (srtT cs m i).getD q Ht.no = ⟨(j : Int), dst 3 (cs.getD j []) m 4⟩ := by
  have hl : q < (srtT cs m i).length := by rw [srtT_length]; exact h
  obtain ⟨j, h1, h2⟩ := srtT_mem (mem_getD hl)
  exact ⟨j, h1, by unfold keyT; rw [getD_mapK hl, h2], h2⟩
/-- what is sorted when the first i are in order, and number i has come down to place j -/
def datJ (cs : List (List Int)) (m : List Int) (n i j : Nat) : List Int := insAt (keyT cs m i) (i : Int) j ++ upI (i + 1) n
theorem datJ_length {cs : List (List Int)} {m : List Int} {n i j : Nat} (hi : i < n) (hj : j ≤ i) : (datJ cs m n i j).length = n := by
  unfold datJ
  rw [List.length_append, insAt_length _ _ (by rw [keyT_length]; exact hj), keyT_length, upI_length]; omega
def datI (cs : List (List Int)) (m : List Int) (n i : Nat) : List Int := keyT cs m i ++ upI i n
theorem datI_length {cs : List (List Int)} {m : List Int} {n i : Nat} (hi : i ≤ n) : (datI cs m n i).length = n := by
  unfold datI
  rw [List.length_append, keyT_length, upI_length]; omega
theorem datI_J {cs : List (List Int)} {m : List Int} {n i : Nat} (hi : i < n) : datI cs m n i = datJ cs m n i i := by
  unfold datI datJ
  rw [upI_cons hi]
  have e := insAt_end (keyT cs m i) (i : Int)
  rw [keyT_length] at e
  rw [e, List.append_assoc]; rfl
theorem gdL {α : Type} {l r : List α} {k : Nat} (d : α) (h : k < l.length) : (l ++ r).getD k d = l.getD k d := by
  rw [List.getD_eq_getElem?_getD, List.getD_eq_getElem?_getD, List.getElem?_append_left h]
theorem datJ_at {cs : List (List Int)} {m : List Int} {n i j : Nat} (hj : j ≤ i) : (datJ cs m n i j).getD j 0 = (i : Int) := by
  unfold datJ
  rw [gdL _ (by rw [insAt_length _ _ (by rw [keyT_length]; exact hj), keyT_length]; omega), insAt_get _ _ _ (by rw [keyT_length]; exact hj)]
theorem datJ_pre {cs : List (List Int)} {m : List Int} {n i j : Nat} (hj : j + 1 ≤ i) : (datJ cs m n i (j + 1)).getD j 0 = (keyT cs m i).getD j 0 := by
  unfold datJ
  rw [gdL _ (by rw [insAt_length _ _ (by rw [keyT_length]; exact hj), keyT_length]; omega), insAt_pre _ _ _ (Nat.lt_succ_self j) (by rw [keyT_length]; exact hj)]
theorem datJ_swap {cs : List (List Int)} {m : List Int} {n i j : Nat} (hj : j + 1 ≤ i) : ((datJ cs m n i (j + 1)).set (j + 1) ((keyT cs m i).getD j 0)).set j (i : Int) = datJ cs m n i j := by
  unfold datJ
  have hl : (insAt (keyT cs m i) (i : Int) (j + 1)).length = i + 1 := by rw [insAt_length _ _ (by rw [keyT_length]; exact hj), keyT_length]
  rw [List.set_append_left _ _ (by omega), List.set_append_left _ _ (by rw [List.length_set]; omega), insAt_swap _ _ _ (by rw [keyT_length]; omega)]
theorem insAt_map (l : List Ht) (x : Ht) (j : Nat) : (insAt l x j).map Ht.key = insAt (l.map Ht.key) x.key j := by
  unfold insAt; rw [List.map_append, List.map_cons, List.map_take, List.map_drop]
/-- number i has come to its place -/
theorem datJ_stop {cs : List (List Int)} {m : List Int} {n i j : Nat} (hj : j ≤ i) (h1 : ∀ q, j ≤ q → q < i → dst 3 (cs.getD i []) m 4 < ((srtT cs m i).getD q Ht.no).dist) (h2 : j = 0 ∨ ¬ dst 3 (cs.getD i []) m 4 < ((srtT cs m i).getD (j - 1) Ht.no).dist) : datJ cs m n i j = datI cs m n (i + 1) := by
  have hs : insAt (srtT cs m i) ⟨(i : Int), dst 3 (cs.getD i []) m 4⟩ j = srtT cs m (i + 1) := by
    refine insH_stop (srtT_srt cs m i) (by rw [srtT_length]; exact hj) (fun q q1 q2 => ltH_iff.2 (.inl (h1 q q1 (by rw [srtT_length] at q2; exact q2)))) ?_
    rcases h2 with h2 | h2
    · exact .inl h2
    · by_cases h0 : j = 0
      · exact .inl h0
      · refine .inr (ltH_no.2 ?_)
        obtain ⟨p, p1, _, p3⟩ := keyT_get (cs := cs) (m := m) (show j - 1 < i by omega)
        rw [p3] at h2 ⊢
        show ¬ (dst 3 (cs.getD i []) m 4 < dst 3 (cs.getD p []) m 4 ∨ (dst 3 (cs.getD i []) m 4 = dst 3 (cs.getD p []) m 4 ∧ (i : Int) < (p : Int)))
        have h2' : ¬ dst 3 (cs.getD i []) m 4 < dst 3 (cs.getD p []) m 4 := h2
        omega
  unfold datJ datI keyT
  rw [← hs, insAt_map]
theorem datI_first (cs : List (List Int)) (m : List Int) {n : Nat} (h : 1 ≤ n) : datI cs m n 1 = upI 0 n := by
  rw [upI_cons (by omega)]; rfl
theorem datI_last (cs : List (List Int)) (m : List Int) (n : Nat) : datI cs m n n = keyT cs m n := by
  unfold datI upI; simp
end Go.Proofs.Ytlammenejgagdaa
