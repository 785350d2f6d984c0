/-
  Plain facts on means of vectors, and on centres that move.
-/
import Derived.Test.YtfgjmfnbpbanmaaListsPlain
namespace Go.Proofs.Ytfgjmfnbpbanmaa
set_option linter.unusedVariables false

/-- coordinate j of the first n vectors, added up -/
def csum (L : List (List Int)) (j : Nat) : Nat → Int
  | 0 => 0
  | n + 1 => csum L j n + (L.getD n []).getD j 0
theorem csum_succ (L : List (List Int)) (j n : Nat) : csum L j (n + 1) = csum L j n + (L.getD n []).getD j 0 := rfl
theorem csum_bd {L : List (List Int)} (h : vecsB L 4 = true) (j : Nat) {n : Nat} (hn : n ≤ L.length) : -100 * (n : Int) ≤ csum L j n ∧ csum L j n ≤ 100 * (n : Int) := by
  induction n with
  | zero => simp [csum]
  | succ n ih =>
    have h1 := ih (by omega)
    have h2 := vecB_at (vecsB_at h (show n < L.length by omega)) j
    rw [csum_succ]
    omega
/-- floor division, as the program does it -/
theorem floor_eq {a n : Int} (hn : 0 < n) : (if a.tmod n < 0 then a.tdiv n - 1 else a.tdiv n) = a / n := by
  have h1 := Int.mul_tdiv_add_tmod a n
  have h2 : a.tmod n < n := Int.tmod_lt_of_pos a hn
  have h3 : -n < a.tmod n := by
    by_cases ha : 0 ≤ a
    · have := Int.tmod_nonneg n ha; omega
    · have h4 : (-a).tmod n = -(a.tmod n) := Int.neg_tmod ..
      have h5 : (-a).tmod n < n := Int.tmod_lt_of_pos _ hn
      omega
  symm
  by_cases hr : a.tmod n < 0
  · rw [if_pos hr]
    refine (Int.ediv_emod_unique (r := a.tmod n + n) hn).2 ⟨?_, by omega, by omega⟩ |>.1
    rw [Int.mul_sub, Int.mul_one]; omega
  · rw [if_neg hr]
    exact ((Int.ediv_emod_unique (r := a.tmod n) hn).2 ⟨by omega, by omega, by omega⟩).1
theorem div_bd {a : Int} {n : Nat} (hn : 1 ≤ n) (h : -100 * (n : Int) ≤ a ∧ a ≤ 100 * (n : Int)) : -100 ≤ a / (n : Int) ∧ a / (n : Int) ≤ 100 := by
  have hp : (0 : Int) < n := by omega
  exact ⟨(Int.le_ediv_iff_mul_le hp).2 h.1, Int.ediv_le_of_le_mul hp h.2⟩
/-- the first m coordinates of the mean -/
def meanT (L : List (List Int)) (m : Nat) : List Int := (List.range m).map fun j => csum L j L.length / (L.length : Int)
theorem meanT_length (L : List (List Int)) (m : Nat) : (meanT L m).length = m := by unfold meanT; simp
theorem meanT_snoc (L : List (List Int)) (m : Nat) : meanT L (m + 1) = meanT L m ++ [csum L m L.length / (L.length : Int)] := by
  unfold meanT; rw [List.range_succ, List.map_append]; rfl
theorem map_get {f : Nat → Int} {n c : Nat} (hc : c < n) : ((List.range n).map f).getD c 0 = f c := by
  rw [List.getD_eq_getElem?_getD, List.getElem?_map, List.getElem?_range hc]; rfl
theorem meanT_get {L : List (List Int)} {m c : Nat} (hc : c < m) : (meanT L m).getD c 0 = csum L c L.length / (L.length : Int) := map_get hc
theorem map_set {f g : Nat → Int} {n j : Nat} (v : Int) (hj : g j = v) (hg : ∀ c, c ≠ j → g c = f c) : ((List.range n).map f).set j v = (List.range n).map g := by
  refine ext_getD 0 (by simp) fun c hc => ?_
  have hc' : c < n := by simpa using hc
  by_cases e : j = c
  · subst e
    rw [gdSetS (by simpa using hc'), map_get hc', hj]
  · rw [gdSetN e, map_get hc', map_get hc', hg c (Ne.symm e)]
/-- the sums: those of the first j coordinates with vector number i, the others without -/
def accT (L : List (List Int)) (i j : Nat) : List Int := (List.range 4).map fun c => if c < j then csum L c (i + 1) else csum L c i
theorem accT_length (L : List (List Int)) (i j : Nat) : (accT L i j).length = 4 := by unfold accT; simp
theorem accT_get {L : List (List Int)} {i j : Nat} (hj : j < 4) : (accT L i j).getD j 0 = csum L j i := by
  unfold accT; rw [map_get hj, if_neg (by omega)]
theorem accT_step (L : List (List Int)) (i j : Nat) : accT L i (j + 1) = (accT L i j).set j (csum L j i + (L.getD i []).getD j 0) := by
  unfold accT
  rw [map_set (g := fun c => if c < j + 1 then csum L c (i + 1) else csum L c i)]
  · rw [if_pos (by omega)]; rfl
  · intro c hc
    by_cases h : c < j
    · rw [if_pos h, if_pos (by omega)]
    · rw [if_neg h, if_neg (by omega)]
theorem map_congr4 {f g : Nat → Int} (h : ∀ c, c < 4 → f c = g c) : (List.range 4).map f = (List.range 4).map g := List.map_congr_left fun c hc => h c (List.mem_range.1 hc)
theorem accT_next (L : List (List Int)) (i : Nat) : accT L i 4 = accT L (i + 1) 0 := map_congr4 fun c hc => by rw [if_pos hc, if_neg (by omega)]
theorem accT_zero (L : List (List Int)) : accT L 0 0 = List.replicate 4 0 := by unfold accT; rfl
/-- .. the first j of them divided -/
def divT (L : List (List Int)) (j : Nat) : List Int := (List.range 4).map fun c => if c < j then csum L c L.length / (L.length : Int) else csum L c L.length
theorem divT_length (L : List (List Int)) (j : Nat) : (divT L j).length = 4 := by unfold divT; simp
theorem divT_zero (L : List (List Int)) : divT L 0 = accT L L.length 0 := map_congr4 fun c hc => by rw [if_neg (by omega), if_neg (by omega)]
theorem divT_all (L : List (List Int)) : divT L 4 = meanT L 4 := map_congr4 fun c hc => by rw [if_pos hc]
theorem divT_get {L : List (List Int)} {j : Nat} (hj : j < 4) : (divT L j).getD j 0 = csum L j L.length := by
  unfold divT; rw [map_get hj, if_neg (by omega)]
theorem divT_step (L : List (List Int)) (j : Nat) : divT L (j + 1) = (divT L j).set j (csum L j L.length / (L.length : Int)) := by
  unfold divT
  rw [map_set (g := fun c => if c < j + 1 then csum L c L.length / (L.length : Int) else csum L c L.length)]
  · rw [if_pos (by omega)]
  · intro c hc
    by_cases h : c < j
    · rw [if_pos h, if_pos (by omega)]
    · rw [if_neg h, if_neg (by omega)]
theorem meanT_vec {L : List (List Int)} (h : vecsB L 4 = true) (h1 : 1 ≤ L.length) : vecB (meanT L 4) 4 = true := by
  unfold vecB coordsB
  rw [meanT_length]
  simp only [Bool.and_eq_true, List.all_eq_true, decide_eq_true_eq]
  refine ⟨fun x hx => ?_, by decide⟩
  unfold meanT at hx
  obtain ⟨c, hc, rfl⟩ := List.mem_map.1 hx
  exact div_bd h1 (csum_bd h c (Nat.le_refl _))
theorem meanT_one {c : List Int} (h : vecB c 4 = true) : meanT [c] 4 = c := by
  have hl := vecB_len h
  refine ext_getD 0 (by rw [meanT_length]; omega) fun j hj => ?_
  rw [meanT_length] at hj
  rw [meanT_get hj]
  show (0 + c.getD j 0) / ((1 : Nat) : Int) = _
  simp
/-- the vectors of those of the first k items whose centre is c -/
def ownP (cs : List (List Int)) (ll : List It) (c : Nat) : Nat → List (List Int)
  | 0 => []
  | k + 1 => if asg cs ll k = c then ownP cs ll c k ++ [(ll.getD k It.no).pos] else ownP cs ll c k
theorem ownP_yes {cs : List (List Int)} {ll : List It} {c k : Nat} (h : asg cs ll k = c) : ownP cs ll c (k + 1) = ownP cs ll c k ++ [(ll.getD k It.no).pos] := by
  show (if _ then _ else _) = _
  rw [if_pos h]
theorem ownP_not {cs : List (List Int)} {ll : List It} {c k : Nat} (h : ¬ asg cs ll k = c) : ownP cs ll c (k + 1) = ownP cs ll c k := by
  show (if _ then _ else _) = _
  rw [if_neg h]
theorem ownP_len (cs : List (List Int)) (ll : List It) (c k : Nat) : (ownP cs ll c k).length ≤ k := by
  induction k with
  | zero => exact Nat.le_refl _
  | succ k ih =>
    by_cases h : asg cs ll k = c
    · rw [ownP_yes h]; simp; omega
    · rw [ownP_not h]; omega
theorem ownP_vecs {cs : List (List Int)} {ll : List It} (h : storeB ll = true) {c k : Nat} (hk : k ≤ ll.length) : vecsB (ownP cs ll c k) 4 = true := by
  induction k with
  | zero => rfl
  | succ k ih =>
    have ih' := ih (by omega)
    by_cases e : asg cs ll k = c
    · rw [ownP_yes e]
      unfold vecsB at ih' ⊢
      rw [List.all_append, ih', List.all_cons, List.all_nil, storeB_vec h (by omega)]; rfl
    · rw [ownP_not e]; exact ih'
theorem ownP_nil {cs : List (List Int)} {ll : List It} {c : Nat} : ∀ k, (ownP cs ll c k = [] ↔ ∀ j, j < k → asg cs ll j ≠ c) := by
  intro k
  induction k with
  | zero => exact ⟨fun _ j hj => absurd hj (Nat.not_lt_zero _), fun _ => rfl⟩
  | succ k ih =>
    by_cases e : asg cs ll k = c
    · rw [ownP_yes e]
      exact ⟨fun h => by simp at h, fun h => absurd e (h k (by omega))⟩
    · rw [ownP_not e, ih]
      exact ⟨fun h j hj => by
        by_cases hjk : j = k
        · subst hjk; exact e
        · exact h j (by omega), fun h j hj => h j (by omega)⟩
/-- where centre number c moves to -/
def movC (cs : List (List Int)) (ll : List It) (c : Nat) : List Int := if ownP cs ll c ll.length = [] then cs.getD c [] else meanT (ownP cs ll c ll.length) 4
theorem movC_nil {cs : List (List Int)} {ll : List It} {c : Nat} (h : ownP cs ll c ll.length = []) : movC cs ll c = cs.getD c [] := if_pos h
theorem movC_mean {cs : List (List Int)} {ll : List It} {c : Nat} (h : ¬ ownP cs ll c ll.length = []) : movC cs ll c = meanT (ownP cs ll c ll.length) 4 := if_neg h
/-- .. the first m centres -/
def movT (cs : List (List Int)) (ll : List It) (m : Nat) : List (List Int) := (List.range m).map (movC cs ll)
theorem movT_length (cs : List (List Int)) (ll : List It) (m : Nat) : (movT cs ll m).length = m := by unfold movT; simp
theorem movT_get {cs : List (List Int)} {ll : List It} {c m : Nat} (h : c < m) : (movT cs ll m).getD c [] = movC cs ll c := by
  unfold movT
  rw [List.getD_eq_getElem?_getD, List.getElem?_map, List.getElem?_range h]
  rfl
theorem movT_snoc (cs : List (List Int)) (ll : List It) (m : Nat) : movT cs ll (m + 1) = movT cs ll m ++ [movC cs ll m] := by
  unfold movT; rw [List.range_succ, List.map_append]; rfl
theorem movC_vec {cs : List (List Int)} {ll : List It} (h : csB cs ll = true) {c : Nat} (hc : c < cs.length) : vecB (movC cs ll c) 4 = true := by
  by_cases e : ownP cs ll c ll.length = []
  · rw [movC_nil e]; exact cenB_at (csB_cen h) hc
  · rw [movC_mean e]
    refine meanT_vec (ownP_vecs (csB_store h) (Nat.le_refl _)) ?_
    rcases Nat.eq_zero_or_pos (ownP cs ll c ll.length).length with h0 | h0
    · exact absurd (List.eq_nil_of_length_eq_zero h0) e
    · exact h0
theorem movT_cen {cs : List (List Int)} {ll : List It} (h : csB cs ll = true) : cenB (movT cs ll cs.length) 4 = true := by
  have h1 := cenB_len (csB_cen h)
  refine cenB_mk ?_ (by rw [movT_length]; omega) (by rw [movT_length]; omega)
  unfold vecsB movT
  rw [List.all_eq_true]
  intro x hx
  obtain ⟨c, hc, rfl⟩ := List.mem_map.1 hx
  exact movC_vec h (List.mem_range.1 hc)
/-- what MoveCentres returns -/
def movV (cs : List (List Int)) (ll : List It) : List (List Int) := if csB cs ll = true then movT cs ll cs.length else []
theorem movV_yes {cs : List (List Int)} {ll : List It} (h : csB cs ll = true) : movV cs ll = movT cs ll cs.length := if_pos h
theorem movV_no {cs : List (List Int)} {ll : List It} (h : csB cs ll = false) : movV cs ll = [] := if_neg (by rw [h]; simp)
end Go.Proofs.Ytfgjmfnbpbanmaa
