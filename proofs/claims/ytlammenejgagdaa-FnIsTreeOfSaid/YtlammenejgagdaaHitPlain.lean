/-
  Plain facts on hits, and on lists of them in the order of their distances and keys.
-/
import Derived.Test.YtlammenejgagdaaCentrePlain
namespace Go.Proofs.Ytlammenejgagdaa
set_option linter.unusedVariables false

/-- a hit: a key, a distance -/
structure Ht where
  key : Int
  dist : Int
def Ht.no : Ht := ⟨0, 0⟩
/-- the order of hits -/
def ltH (a b : Ht) : Bool := decide (a.dist < b.dist) || (decide (a.dist = b.dist) && decide (a.key < b.key))
theorem ltH_iff {a b : Ht} : ltH a b = true ↔ a.dist < b.dist ∨ (a.dist = b.dist ∧ a.key < b.key) := by unfold ltH; simp
theorem ltH_no {a b : Ht} : ltH a b = false ↔ ¬ (a.dist < b.dist ∨ (a.dist = b.dist ∧ a.key < b.key)) := by rw [← ltH_iff]; simp
theorem ltH_trans {a b c : Ht} (h1 : ltH a b = true) (h2 : ltH b c = true) : ltH a c = true := by rw [ltH_iff] at *; omega
theorem ltH_total {a b : Ht} (h : ltH a b = false) (hk : a.key ≠ b.key) : ltH b a = true := by rw [ltH_no] at h; rw [ltH_iff]; omega
/-- one hit more, in its place -/
def insH (x : Ht) : List Ht → List Ht
  | [] => [x]
  | y :: l => if ltH x y = true then x :: y :: l else y :: insH x l
theorem insH_length (x : Ht) (l : List Ht) : (insH x l).length = l.length + 1 := by
  induction l with
  | nil => rfl
  | cons y l ih =>
    unfold insH
    split
    · rfl
    · simp [ih]
theorem mem_insH {x z : Ht} {l : List Ht} : z ∈ insH x l ↔ z = x ∨ z ∈ l := by
  induction l with
  | nil => simp [insH]
  | cons y l ih =>
    unfold insH
    split
    · simp
    · simp [ih]
      constructor
      · rintro (h | h | h) <;> simp [h]
      · rintro (h | h | h) <;> simp [h]
theorem take_insH (x : Ht) (l : List Ht) : ∀ k, (insH x (l.take k)).take k = (insH x l).take k := by
  induction l with
  | nil => intro k; simp
  | cons y l ih =>
    intro k
    cases k with
    | zero => simp
    | succ k =>
      rw [List.take_succ_cons]
      unfold insH
      split
      · rw [List.take_succ_cons, List.take_succ_cons]
        cases k with
        | zero => simp
        | succ k => rw [List.take_succ_cons, List.take_succ_cons, List.take_take, Nat.min_eq_left (by omega)]
      · rw [List.take_succ_cons, List.take_succ_cons, ih k]
/-- the hits are in order -/
def SrtH (l : List Ht) : Prop := l.Pairwise fun a b => ltH a b = true
theorem srtH_ins {x : Ht} {l : List Ht} (h : SrtH l) (hk : ∀ y ∈ l, x.key ≠ y.key) : SrtH (insH x l) := by
  induction l with
  | nil => exact List.pairwise_singleton _ _
  | cons y l ih =>
    have h1 := List.pairwise_cons.1 h
    unfold insH
    cases hxy : ltH x y
    · rw [if_neg (by simp)]
      refine List.pairwise_cons.2 ⟨fun z hz => ?_, ih h1.2 fun z hz => hk z (List.mem_cons_of_mem _ hz)⟩
      rcases mem_insH.1 hz with rfl | hz
      · exact ltH_total hxy (hk y (List.mem_cons_self ..))
      · exact h1.1 z hz
    · rw [if_pos rfl]
      refine List.pairwise_cons.2 ⟨fun z hz => ?_, h⟩
      rcases List.mem_cons.1 hz with rfl | hz
      · exact hxy
      · exact ltH_trans hxy (h1.1 z hz)
theorem srtH_take {l : List Ht} (h : SrtH l) (k : Nat) : SrtH (l.take k) := List.Pairwise.sublist (List.take_sublist _ _) h
theorem srtH_at {l : List Ht} (h : SrtH l) {i j : Nat} (hij : i < j) (hj : j < l.length) : ltH (l.getD i Ht.no) (l.getD j Ht.no) = true := by
  rw [List.getD_eq_getElem?_getD, List.getElem?_eq_getElem (by omega), List.getD_eq_getElem?_getD, List.getElem?_eq_getElem hj]
  exact List.pairwise_iff_getElem.1 h i j (by omega) hj hij
/-- x at place i of l -/
def insAt {α : Type} (l : List α) (x : α) (i : Nat) : List α := l.take i ++ x :: l.drop i
theorem insAt_length {α : Type} (l : List α) (x : α) {i : Nat} (hi : i ≤ l.length) : (insAt l x i).length = l.length + 1 := by
  unfold insAt; simp; omega
theorem insAt_end {α : Type} (l : List α) (x : α) : insAt l x l.length = l ++ [x] := by unfold insAt; simp
theorem insAt_get {α : Type} (l : List α) (x d : α) {i : Nat} (hi : i ≤ l.length) : (insAt l x i).getD i d = x := by
  unfold insAt
  rw [List.getD_eq_getElem?_getD, List.getElem?_append_right (by simp; omega)]
  simp [Nat.min_eq_left hi]
theorem insAt_pre {α : Type} (l : List α) (x d : α) {i j : Nat} (hj : j < i) (hi : i ≤ l.length) : (insAt l x i).getD j d = l.getD j d := by
  unfold insAt
  rw [List.getD_eq_getElem?_getD, List.getElem?_append_left (by simp; omega), List.getElem?_take_of_lt hj, List.getD_eq_getElem?_getD]
/-- x moves one place down -/
theorem insAt_swap {α : Type} (l : List α) (x d : α) {i : Nat} (hi : i < l.length) : ((insAt l x (i + 1)).set (i + 1) (l.getD i d)).set i x = insAt l x i := by
  refine List.ext_getElem? fun j => ?_
  have e1 : (insAt l x (i + 1)).length = l.length + 1 := insAt_length l x (by omega)
  have e2 : (insAt l x i).length = l.length + 1 := insAt_length l x (by omega)
  have hd : l[i]? = some (l.getD i d) := by rw [List.getD_eq_getElem?_getD, List.getElem?_eq_getElem hi]; rfl
  by_cases h0 : j = i
  · subst h0
    rw [List.getElem?_set_self (by rw [List.length_set]; omega)]
    unfold insAt
    rw [List.getElem?_append_right (by simp; omega)]
    simp [Nat.min_eq_left (Nat.le_of_lt hi)]
  · rw [List.getElem?_set_ne (fun e => h0 e.symm)]
    by_cases h1 : j = i + 1
    · subst h1
      rw [List.getElem?_set_self (by omega)]
      unfold insAt
      rw [List.getElem?_append_right (by simp; omega), ← hd]
      simp [Nat.min_eq_left (Nat.le_of_lt hi)]
    · rw [List.getElem?_set_ne (fun e => h1 e.symm)]
      unfold insAt
      by_cases h2 : j < i
      · rw [List.getElem?_append_left (by simp; omega), List.getElem?_append_left (by simp; omega), List.getElem?_take_of_lt (by omega), List.getElem?_take_of_lt h2]
      · rw [List.getElem?_append_right (by simp; omega), List.getElem?_append_right (by simp; omega)]
        simp only [List.length_take, Nat.min_eq_left (Nat.le_of_lt hi), Nat.min_eq_left (show i + 1 ≤ l.length by omega)]
        rw [show j - (i + 1) = (j - i - 2) + 1 by omega, show j - i = (j - i - 2 + 1) + 1 by omega, List.getElem?_cons_succ, List.getElem?_cons_succ, List.getElem?_drop, List.getElem?_drop]
        congr 1
        omega
/-- .. where it belongs -/
theorem insH_cut {x : Ht} {l : List Ht} : ∀ {i : Nat}, i ≤ l.length → (∀ j, i ≤ j → j < l.length → ltH x (l.getD j Ht.no) = true) → (∀ j, j < i → ltH x (l.getD j Ht.no) = false) → insAt l x i = insH x l := by
  induction l with
  | nil =>
    intro i hi h1 h2
    have h0 : i = 0 := by simpa using hi
    subst h0
    rfl
  | cons y l ih =>
    intro i hi h1 h2
    cases i with
    | zero =>
      have h : ltH x y = true := h1 0 (Nat.le_refl _) (by simp)
      show x :: y :: l = _
      unfold insH
      rw [if_pos h]
    | succ i =>
      have h : ltH x y = false := h2 0 (by omega)
      show y :: insAt l x i = _
      unfold insH
      rw [if_neg (by rw [h]; simp)]
      rw [ih (by simpa using hi) (fun j h3 h4 => h1 (j + 1) (by omega) (by simpa using h4)) (fun j h3 => h2 (j + 1) (by omega))]
theorem insH_stop {x : Ht} {l : List Ht} (hs : SrtH l) {i : Nat} (hi : i ≤ l.length) (h1 : ∀ j, i ≤ j → j < l.length → ltH x (l.getD j Ht.no) = true) (h2 : i = 0 ∨ ltH x (l.getD (i - 1) Ht.no) = false) : insAt l x i = insH x l := by
  refine insH_cut hi h1 fun j hj => ?_
  rcases h2 with rfl | h2
  · omega
  · by_cases he : j = i - 1
    · subst he; exact h2
    · cases hx : ltH x (l.getD j Ht.no) with
      | false => rfl
      | true =>
        have := ltH_trans hx (srtH_at hs (show j < i - 1 by omega) (by omega))
        rw [h2] at this
        cases this
/-- the first c centres, as hits in order -/
def srtT (cs : List (List Int)) (m : List Int) : Nat → List Ht
  | 0 => []
  | c + 1 => insH ⟨(c : Int), dst 3 (cs.getD c []) m 4⟩ (srtT cs m c)
theorem srtT_length (cs : List (List Int)) (m : List Int) (c : Nat) : (srtT cs m c).length = c := by
  induction c with
  | zero => rfl
  | succ c ih => show (insH _ _).length = _; rw [insH_length, ih]
theorem srtT_mem {cs : List (List Int)} {m : List Int} {c : Nat} {x : Ht} (h : x ∈ srtT cs m c) : ∃ j, j < c ∧ x = ⟨(j : Int), dst 3 (cs.getD j []) m 4⟩ := by
  induction c with
  | zero => simp [srtT] at h
  | succ c ih =>
    rcases mem_insH.1 h with rfl | h
    · exact ⟨c, by omega, rfl⟩
    · obtain ⟨j, h1, h2⟩ := ih h
      exact ⟨j, by omega, h2⟩
theorem srtT_srt (cs : List (List Int)) (m : List Int) (c : Nat) : SrtH (srtT cs m c) := by
  induction c with
  | zero => exact List.Pairwise.nil
  | succ c ih =>
    refine srtH_ins ih fun y hy => ?_
    obtain ⟨j, h1, rfl⟩ := srtT_mem hy
    show (c : Int) ≠ (j : Int)
    omega
/-- the numbers of the nearest centres -/
def prbL (cs : List (List Int)) (m : List Int) (k : Nat) : List Int := ((srtT cs m cs.length).take k).map Ht.key
/-- the first c of them, at most k, as the reference keeps them -/
def prbT (cs : List (List Int)) (m : List Int) (k c : Nat) : List Ht := (srtT cs m c).take k
theorem prbT_succ (cs : List (List Int)) (m : List Int) (k c : Nat) : prbT cs m k (c + 1) = (insH ⟨(c : Int), dst 3 (cs.getD c []) m 4⟩ (prbT cs m k c)).take k := (take_insH _ _ _).symm
theorem srtT_all (cs : List (List Int)) (m : List Int) {c j : Nat} (h : j < c) : (⟨(j : Int), dst 3 (cs.getD j []) m 4⟩ : Ht) ∈ srtT cs m c := by
  induction c with
  | zero => omega
  | succ c ih =>
    refine mem_insH.2 ?_
    by_cases e : j = c
    · subst e; exact .inl rfl
    · exact .inr (ih (by omega))
theorem prbL_length (cs : List (List Int)) (m : List Int) (k : Nat) : (prbL cs m k).length = min k cs.length := by
  unfold prbL; rw [List.length_map, List.length_take, srtT_length]
theorem getD_mapK {l : List Ht} {i : Nat} (h : i < l.length) : (l.map Ht.key).getD i 0 = (l.getD i Ht.no).key := by
  rw [List.getD_eq_getElem?_getD, List.getElem?_map, List.getElem?_eq_getElem h, List.getD_eq_getElem?_getD, List.getElem?_eq_getElem h]; rfl
theorem mem_getD {l : List Ht} {i : Nat} (h : i < l.length) : l.getD i Ht.no ∈ l := by
  rw [List.getD_eq_getElem?_getD, List.getElem?_eq_getElem h]; exact List.getElem_mem _
theorem prbL_get {cs : List (List Int)} {m : List Int} {k i : Nat} (h : i < (prbL cs m k).length) : ∃ j, j < cs.length ∧ (prbL cs m k).getD i 0 = (j : Int) ∧ ((srtT cs m cs.length).take k).getD i Ht.no = ⟨(j : Int), dst 3 (cs.getD j []) m 4⟩ := by
  have hl : i < ((srtT cs m cs.length).take k).length := by unfold prbL at h; rw [List.length_map] at h; exact h
  obtain ⟨j, h1, h2⟩ := srtT_mem (List.mem_of_mem_take (mem_getD hl))
  refine ⟨j, h1, ?_, h2⟩
  unfold prbL
  rw [getD_mapK hl, h2]
/-- the distances do not fall, and of equal ones the numbers ascend -/
theorem prbL_asc {cs : List (List Int)} {m : List Int} {k i a b : Nat} (h : i + 1 < (prbL cs m k).length) (ha : (prbL cs m k).getD i 0 = (a : Int)) (hb : (prbL cs m k).getD (i + 1) 0 = (b : Int)) :
    dst 3 (cs.getD a []) m 4 < dst 3 (cs.getD b []) m 4 ∨ (dst 3 (cs.getD a []) m 4 = dst 3 (cs.getD b []) m 4 ∧ a < b) := by
  obtain ⟨a', _, ha1, ha2⟩ := prbL_get (i := i) (by omega : i < (prbL cs m k).length)
  obtain ⟨b', _, hb1, hb2⟩ := prbL_get h
  have hl : i + 1 < ((srtT cs m cs.length).take k).length := by unfold prbL at h; rw [List.length_map] at h; exact h
  have hs := srtH_at (srtH_take (srtT_srt cs m cs.length) k) (Nat.lt_succ_self i) hl
  rw [ha2, hb2, ltH_iff] at hs
  have e1 : a = a' := by omega
  have e2 : b = b' := by omega
  subst e1 e2
  have hs' : dst 3 (cs.getD a []) m 4 < dst 3 (cs.getD b []) m 4 ∨ (dst 3 (cs.getD a []) m 4 = dst 3 (cs.getD b []) m 4 ∧ (a : Int) < (b : Int)) := hs
  omega
theorem prbL_first {cs : List (List Int)} {m : List Int} (h : cenB cs 4 = true) {k : Nat} (hk : 1 ≤ k) : (prbL cs m k).getD 0 0 = (near cs m : Int) := by
  have hlc := (cenB_len h).1
  have hl : 0 < (prbL cs m k).length := by rw [prbL_length]; omega
  obtain ⟨j, h1, h2, h3⟩ := prbL_get hl
  have hn := near_lt m hlc
  have hb := best_best cs m cs.length j h1
  have e0 : (srtT cs m cs.length).getD 0 Ht.no = ⟨(j : Int), dst 3 (cs.getD j []) m 4⟩ := by
    rw [← h3, List.getD_eq_getElem?_getD, List.getD_eq_getElem?_getD, List.getElem?_take_of_lt (by omega)]
  obtain ⟨i, hi, he⟩ := List.getElem_of_mem (srtT_all cs m hn)
  have hi' : (srtT cs m cs.length).getD i Ht.no = ⟨(near cs m : Int), dst 3 (cs.getD (near cs m) []) m 4⟩ := by
    rw [List.getD_eq_getElem?_getD, List.getElem?_eq_getElem hi, he]; rfl
  rw [h2]
  by_cases hi0 : i = 0
  · subst hi0
    rw [e0] at hi'
    simp only [Ht.mk.injEq] at hi'
    exact hi'.1
  · have hs := srtH_at (srtT_srt cs m cs.length) (show 0 < i by omega) hi
    rw [e0, hi', ltH_iff] at hs
    have hs' : dst 3 (cs.getD j []) m 4 < dst 3 (cs.getD (near cs m) []) m 4 ∨ (dst 3 (cs.getD j []) m 4 = dst 3 (cs.getD (near cs m) []) m 4 ∧ (j : Int) < (near cs m : Int)) := hs
    have q1 : sqd (cs.getD (near cs m) []) m ≤ sqd (cs.getD j []) m := hb.1
    have q2 : sqd (cs.getD j []) m = sqd (cs.getD (near cs m) []) m → near cs m ≤ j := hb.2
    have l1 := vecB_len (cenB_at h hn)
    have l2 := vecB_len (cenB_at h h1)
    unfold sqd at q1 q2
    rw [show (cs.getD (near cs m) []).length = 4 by omega, show (cs.getD j []).length = 4 by omega] at q1 q2
    rcases hs' with h5 | ⟨h5, h6⟩
    · omega
    · have := q2 h5; omega
theorem prbL_more (cs : List (List Int)) (m : List Int) (k : Nat) : (prbL cs m (k + 1)).take (prbL cs m k).length = prbL cs m k := by
  rw [prbL_length]
  unfold prbL
  rw [← List.map_take, List.take_take]
  congr 1
  have hl := srtT_length cs m cs.length
  by_cases hk : k ≤ cs.length
  · rw [show min (min k cs.length) (k + 1) = k by omega]
  · rw [show min (min k cs.length) (k + 1) = cs.length by omega, List.take_of_length_le (by omega), List.take_of_length_le (by omega)]
end Go.Proofs.Ytlammenejgagdaa
