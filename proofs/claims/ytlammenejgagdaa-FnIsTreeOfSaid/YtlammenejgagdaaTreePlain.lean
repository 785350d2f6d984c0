/-
  Plain facts on trees of items: how they are built, what a search in them finds and how many nodes it looks at.
-/
import Derived.Test.YtlammenejgagdaaNearPlain
namespace Go.Proofs.Ytlammenejgagdaa
set_option linter.unusedVariables false

/-- the order of items around a vector -/
def ltI (kind : Int) (m : List Int) (x y : It) : Bool := ltH (htIt kind m x) (htIt kind m y)
theorem ltH_irr (x : Ht) : ltH x x = false := by rw [ltH_no]; omega
theorem ltH_asym {x y : Ht} (h : ltH x y = true) : ltH y x = false := by rw [ltH_no]; rw [ltH_iff] at h; omega
/-- not after, not after: not after -/
theorem ltH_weak {a b c : Ht} (h1 : ltH b a = false) (h2 : ltH c b = false) : ltH c a = false := by rw [ltH_no] at *; omega
/-- one item more, in its place -/
def insI (kind : Int) (m : List Int) (x : It) : List It → List It
  | [] => [x]
  | y :: l => if ltI kind m x y = true then x :: y :: l else y :: insI kind m x l
theorem insI_perm (kind : Int) (m : List Int) (x : It) (l : List It) : (insI kind m x l).Perm (x :: l) := by
  induction l with
  | nil => exact List.Perm.refl _
  | cons y l ih =>
    unfold insI
    split
    · exact List.Perm.refl _
    · exact (ih.cons y).trans (List.Perm.swap x y l)
/-- no item is nearer than one before it -/
def WI (kind : Int) (m : List Int) (l : List It) : Prop := l.Pairwise fun a b => ltI kind m b a = false
theorem wi_ins {kind : Int} {m : List Int} {x : It} {l : List It} (h : WI kind m l) : WI kind m (insI kind m x l) := by
  induction l with
  | nil => exact List.pairwise_singleton _ _
  | cons y l ih =>
    have h1 := List.pairwise_cons.1 h
    unfold insI
    cases hxy : ltI kind m x y
    · rw [if_neg (by simp)]
      refine List.pairwise_cons.2 ⟨fun z hz => ?_, ih h1.2⟩
      rcases List.mem_cons.1 ((insI_perm kind m x l).mem_iff.1 hz) with rfl | hz
      · exact hxy
      · exact h1.1 z hz
    · rw [if_pos rfl]
      refine List.pairwise_cons.2 ⟨fun z hz => ?_, h⟩
      rcases List.mem_cons.1 hz with rfl | hz
      · exact ltH_asym hxy
      · exact ltH_weak (ltH_asym hxy) (h1.1 z hz)
/-- .. where it belongs -/
theorem insI_cut {kind : Int} {m : List Int} {x : It} {l : List It} : ∀ {i : Nat}, i ≤ l.length → (∀ j, i ≤ j → j < l.length → ltI kind m x (l.getD j It.no) = true) → (∀ j, j < i → ltI kind m x (l.getD j It.no) = false) → insAt l x i = insI kind m x l := by
  induction l with
  | nil =>
    intro i hi h1 h2
    have h0 : i = 0 := by simpa using hi
    subst h0
    rfl
  | cons y l ih =>
    intro i hi h1 h2
    cases i with
    | zero =>
      have h : ltI kind m x y = true := h1 0 (Nat.le_refl _) (by simp)
      show x :: y :: l = _
      unfold insI
      rw [if_pos h]
    | succ i =>
      have h : ltI kind m x y = false := h2 0 (by omega)
      show y :: insAt l x i = _
      unfold insI
      rw [if_neg (by rw [h]; simp)]
      rw [ih (by simpa using hi) (fun j h3 h4 => h1 (j + 1) (by omega) (by simpa using h4)) (fun j h3 => h2 (j + 1) (by omega))]
theorem wi_at {kind : Int} {m : List Int} {l : List It} (h : WI kind m l) {i j : Nat} (hij : i < j) (hj : j < l.length) : ltI kind m (l.getD j It.no) (l.getD i It.no) = false := by
  rw [List.getD_eq_getElem?_getD, List.getElem?_eq_getElem hj, List.getD_eq_getElem?_getD, List.getElem?_eq_getElem (by omega)]
  exact List.pairwise_iff_getElem.1 h i j (by omega) hj hij
theorem insI_stop {kind : Int} {m : List Int} {x : It} {l : List It} (hs : WI kind m l) {i : Nat} (hi : i ≤ l.length) (h1 : ∀ j, i ≤ j → j < l.length → ltI kind m x (l.getD j It.no) = true) (h2 : i = 0 ∨ ltI kind m x (l.getD (i - 1) It.no) = false) : insAt l x i = insI kind m x l := by
  refine insI_cut hi h1 fun j hj => ?_
  rcases h2 with rfl | h2
  · omega
  · by_cases he : j = i - 1
    · subst he; exact h2
    · exact ltH_weak (wi_at hs (show j < i - 1 by omega) (by omega)) h2
/-- the first c items, in order -/
def srtI (kind : Int) (m : List Int) (l : List It) : Nat → List It
  | 0 => []
  | c + 1 => insI kind m (l.getD c It.no) (srtI kind m l c)
theorem srtI_wi (kind : Int) (m : List Int) (l : List It) (c : Nat) : WI kind m (srtI kind m l c) := by
  induction c with
  | zero => exact List.Pairwise.nil
  | succ c ih => exact wi_ins ih
theorem srtI_perm (kind : Int) (m : List Int) (l : List It) : ∀ c, c ≤ l.length → (srtI kind m l c).Perm (l.take c) := by
  intro c
  induction c with
  | zero => intro _; simp [srtI]
  | succ c ih =>
    intro hc
    rw [List.take_succ_eq_append_getElem (by omega)]
    refine (insI_perm kind m _ _).trans ?_
    rw [List.getD_eq_getElem?_getD, List.getElem?_eq_getElem (by omega)]
    exact ((ih (by omega)).cons _).trans (List.perm_append_comm (l₁ := [l[c]]))
theorem srtI_length (kind : Int) (m : List Int) (l : List It) (c : Nat) : (srtI kind m l c).length = c := by
  induction c with
  | zero => rfl
  | succ c ih => show (insI _ _ _ _).length = _; rw [(insI_perm kind m _ _).length_eq, List.length_cons, ih]
/-- items in ascending order of their distances to a vector -/
def byD (kind : Int) (m : List Int) (l : List It) : List It := srtI kind m l l.length
theorem byD_length (kind : Int) (m : List Int) (l : List It) : (byD kind m l).length = l.length := srtI_length _ _ _ _
theorem byD_perm (kind : Int) (m : List Int) (l : List It) : (byD kind m l).Perm l := by
  have := srtI_perm kind m l l.length (Nat.le_refl _)
  rwa [List.take_length] at this
theorem byD_mem {kind : Int} {m : List Int} {l : List It} {x : It} : x ∈ byD kind m l ↔ x ∈ l := (byD_perm kind m l).mem_iff
/-- lists in one strict order with the same members are one -/
theorem extBy {α : Type} {lt : α → α → Bool} (irr : ∀ x, lt x x = false) (tr : ∀ a b c, lt a b = true → lt b c = true → lt a c = true) : ∀ {l m : List α}, l.Pairwise (fun a b => lt a b = true) → m.Pairwise (fun a b => lt a b = true) → (∀ x, x ∈ l ↔ x ∈ m) → l = m := by
  intro l
  induction l with
  | nil =>
    intro m _ _ h
    cases m with
    | nil => rfl
    | cons y m => exact absurd ((h y).2 (List.mem_cons_self ..)) (by simp)
  | cons x l ih =>
    intro m hl hm h
    cases m with
    | nil => exact absurd ((h x).1 (List.mem_cons_self ..)) (by simp)
    | cons y m =>
      have h1 := List.pairwise_cons.1 hl
      have h2 := List.pairwise_cons.1 hm
      have ir : ∀ z : α, lt z z = true → False := fun z hz => by rw [irr] at hz; cases hz
      have hxy : x = y := by
        rcases List.mem_cons.1 ((h x).1 (List.mem_cons_self ..)) with e | e
        · exact e
        · rcases List.mem_cons.1 ((h y).2 (List.mem_cons_self ..)) with e' | e'
          · exact e'.symm
          · exact (ir x (tr _ _ _ (h1.1 y e') (h2.1 x e))).elim
      subst hxy
      rw [ih h1.2 h2.2 fun z => ?_]
      constructor
      · intro hz
        rcases List.mem_cons.1 ((h z).1 (List.mem_cons_of_mem _ hz)) with e | e
        · subst e; exact (ir z (h1.1 z hz)).elim
        · exact e
      · intro hz
        rcases List.mem_cons.1 ((h z).2 (List.mem_cons_of_mem _ hz)) with e | e
        · subst e; exact (ir z (h2.1 z hz)).elim
        · exact e
theorem ltI_total {kind : Int} {m : List Int} {a b : It} (h : ltI kind m b a = false) (hk : a.key ≠ b.key) : ltI kind m a b = true := ltH_total h fun e => hk e.symm
/-- sorting puts items with different keys in this order -/
theorem mergeI {kind : Int} {m : List Int} {l : List It} (hk : l.Pairwise fun a b => a.key ≠ b.key) : (l.mergeSort fun x y => !ltI kind m y x) = byD kind m l := by
  have strict : ∀ {s : List It}, s.Perm l → WI kind m s → s.Pairwise fun a b => ltI kind m a b = true := fun {s} hp hw =>
    List.Pairwise.imp (fun {a b} (h : ltI kind m b a = false ∧ a.key ≠ b.key) => ltI_total h.1 h.2)
      (List.Pairwise.and hw ((List.Perm.pairwise_iff (fun {a b} (h : a.key ≠ b.key) => Ne.symm h) hp).2 hk))
  refine extBy (lt := ltI kind m) (fun x => ltH_irr _) (fun a b c => ltH_trans) (strict (List.mergeSort_perm l _) ?_) (strict (byD_perm kind m l) (srtI_wi _ _ _ _)) fun x => by rw [List.mem_mergeSort, byD_mem]
  have h1 : (l.mergeSort fun x y => !ltI kind m y x).Pairwise fun a b => (!ltI kind m b a) = true :=
    List.pairwise_mergeSort (fun a b c hab hbc => by
      simp only [Bool.not_eq_true', ltI] at *
      exact ltH_weak hab hbc) (fun a b => by
      cases h : ltI kind m b a
      · rfl
      · rw [show ltI kind m a b = false from ltH_asym h]; rfl) l
  exact List.Pairwise.imp (fun {a b} h => by simpa using h) h1

/-- a tree of items -/
inductive Tr where
  | nil : Tr
  | node (x : It) (r : Int) (a b : Tr) : Tr
/-- the number of items in Near -/
def hf (n : Nat) : Nat := (n + 1) / 2
theorem hf_le (n : Nat) : hf n ≤ n := by unfold hf; omega
theorem hf_zero {n : Nat} : hf n = 0 ↔ n = 0 := by unfold hf; omega
/-- the others of a top, in order -/
def rst (kind : Int) (x : It) (xs : List It) : List It := byD kind x.pos xs
theorem rst_length (kind : Int) (x : It) (xs : List It) : (rst kind x xs).length = xs.length := byD_length _ _ _
/-- the radius of a top -/
def rad (kind : Int) (x : It) (xs : List It) : Int := if 0 < hf xs.length then dst kind ((rst kind x xs).getD (hf xs.length - 1) It.no).pos x.pos 4 else 0
def trN (kind : Int) : Nat → List It → Tr
  | 0, _ => .nil
  | n + 1, [] => .nil
  | n + 1, x :: xs => .node x (rad kind x xs) (trN kind n ((rst kind x xs).take (hf xs.length))) (trN kind n ((rst kind x xs).drop (hf xs.length)))
theorem trN_more (kind : Int) : ∀ n l, l.length ≤ n → trN kind (n + 1) l = trN kind n l := by
  intro n
  induction n with
  | zero =>
    intro l h
    have : l = [] := List.eq_nil_of_length_eq_zero (by omega)
    subst this
    rfl
  | succ n ih =>
    intro l h
    cases l with
    | nil => rfl
    | cons x xs =>
      have hl : xs.length ≤ n := by simpa using h
      show Tr.node _ _ _ _ = Tr.node _ _ _ _
      rw [ih _ (by rw [List.length_take, rst_length]; omega), ih _ (by rw [List.length_drop, rst_length]; omega)]
theorem trN_le (kind : Int) (l : List It) : ∀ d, trN kind (l.length + d) l = trN kind l.length l := by
  intro d
  induction d with
  | zero => rfl
  | succ d ih => rw [← Nat.add_assoc, trN_more kind (l.length + d) l (by omega), ih]
/-- the tree of a list of items -/
def tr (kind : Int) (l : List It) : Tr := trN kind l.length l
theorem tr_nil (kind : Int) : tr kind [] = .nil := rfl
theorem trN_eq (kind : Int) {l : List It} {n : Nat} (h : l.length ≤ n) : trN kind n l = tr kind l := by
  have := trN_le kind l (n - l.length)
  rwa [show l.length + (n - l.length) = n by omega] at this
theorem tr_cons (kind : Int) (x : It) (xs : List It) : tr kind (x :: xs) = .node x (rad kind x xs) (tr kind ((rst kind x xs).take (hf xs.length))) (tr kind ((rst kind x xs).drop (hf xs.length))) := by
  show trN kind (xs.length + 1) (x :: xs) = _
  rw [trN, trN_eq kind (by rw [List.length_take, rst_length]; omega), trN_eq kind (by rw [List.length_drop, rst_length]; omega)]
/-- how many items are in a tree -/
def Tr.size : Tr → Nat
  | .nil => 0
  | .node _ _ a b => 1 + a.size + b.size
/-- the items of a tree -/
def Tr.items : Tr → List It
  | .nil => []
  | .node x _ a b => x :: (a.items ++ b.items)
theorem Tr.items_length (t : Tr) : t.items.length = t.size := by
  induction t with
  | nil => rfl
  | node x r a b iha ihb => simp [Tr.items, Tr.size, iha, ihb]; omega
theorem tr_perm (kind : Int) : ∀ n (l : List It), l.length ≤ n → (tr kind l).items.Perm l := by
  intro n
  induction n with
  | zero =>
    intro l h
    have : l = [] := List.eq_nil_of_length_eq_zero (by omega)
    subst this
    exact List.Perm.refl _
  | succ n ih =>
    intro l h
    cases l with
    | nil => exact List.Perm.refl _
    | cons x xs =>
      have hl : xs.length ≤ n := by simpa using h
      rw [tr_cons]
      refine List.Perm.cons x ?_
      refine (List.Perm.append (ih _ (by rw [List.length_take, rst_length]; omega)) (ih _ (by rw [List.length_drop, rst_length]; omega))).trans ?_
      rw [List.take_append_drop]
      exact byD_perm _ _ _
theorem tr_items (kind : Int) (l : List It) : (tr kind l).items.Perm l := tr_perm kind l.length l (Nat.le_refl _)
theorem tr_size (kind : Int) (l : List It) : (tr kind l).size = l.length := by rw [← Tr.items_length, (tr_items kind l).length_eq]
/-- a node -/
structure Nd where
  key : Int
  rad : Int
  near : Int
  far : Int
def Nd.no : Nd := ⟨0, 0, 0, 0⟩
/-- the number of a tree's top node, or -1 -/
def Tr.top : Tr → Nat → Int
  | .nil, _ => -1
  | .node _ _ _ _, n => n
/-- the nodes of a tree, numbered from n on -/
def Tr.nds : Tr → Nat → List Nd
  | .nil, _ => []
  | .node x r a b, n => ⟨x.key, r, a.top (n + 1), b.top (n + 1 + a.size)⟩ :: (a.nds (n + 1) ++ b.nds (n + 1 + a.size))
theorem Tr.nds_length (t : Tr) : ∀ n, (t.nds n).length = t.size := by
  induction t with
  | nil => intro n; rfl
  | node x r a b iha ihb => intro n; simp [Tr.nds, Tr.size, iha, ihb]; omega
theorem tr_top (kind : Int) (l : List It) (n : Nat) : (tr kind l).top n = if l.length = 0 then -1 else (n : Int) := by
  cases l with
  | nil => rfl
  | cons x xs => rw [tr_cons]; simp [Tr.top]

/-- the reach of a search -/
def rch (k : Nat) (h : List Ht) : Int := if h.length < k then 1000000 else (h.getD (h.length - 1) Ht.no).dist
/-- a search: what it has found, and how many nodes it has looked at -/
def Tr.vis (kind : Int) (q : List Int) (k : Nat) : Tr → List Ht → List Ht × Nat
  | .nil, h => (h, 0)
  | .node x r a b, h =>
    let d := dst kind x.pos q 4
    let h1 := (insH ⟨x.key, d⟩ h).take k
    if d ≤ r then
      let p := a.vis kind q k h1
      if r ≤ d + rch k p.1 then ((b.vis kind q k p.1).1, 1 + p.2 + (b.vis kind q k p.1).2) else (p.1, 1 + p.2)
    else
      let p := b.vis kind q k h1
      if d - rch k p.1 ≤ r then ((a.vis kind q k p.1).1, 1 + p.2 + (a.vis kind q k p.1).2) else (p.1, 1 + p.2)
/-- all hits of a tree, put in order as a search that leaves out nothing does -/
def Tr.all (kind : Int) (q : List Int) : Tr → List Ht → List Ht
  | .nil, S => S
  | .node x r a b, S => if dst kind x.pos q 4 ≤ r then b.all kind q (a.all kind q (insH ⟨x.key, dst kind x.pos q 4⟩ S)) else a.all kind q (b.all kind q (insH ⟨x.key, dst kind x.pos q 4⟩ S))
/-- no hit is nearer than one before it -/
def WH (l : List Ht) : Prop := l.Pairwise fun a b => ltH b a = false
theorem wh_ins {x : Ht} {l : List Ht} (h : WH l) : WH (insH x l) := by
  induction l with
  | nil => exact List.pairwise_singleton _ _
  | cons y l ih =>
    have h1 := List.pairwise_cons.1 h
    unfold insH
    cases hxy : ltH x y
    · rw [if_neg (by simp)]
      refine List.pairwise_cons.2 ⟨fun z hz => ?_, ih h1.2⟩
      rcases mem_insH.1 hz with rfl | hz
      · exact hxy
      · exact h1.1 z hz
    · rw [if_pos rfl]
      refine List.pairwise_cons.2 ⟨fun z hz => ?_, h⟩
      rcases List.mem_cons.1 hz with rfl | hz
      · exact ltH_asym hxy
      · exact ltH_weak (ltH_asym hxy) (h1.1 z hz)
theorem wh_at {l : List Ht} (h : WH l) {i j : Nat} (hij : i ≤ j) (hj : j < l.length) : (l.getD i Ht.no).dist ≤ (l.getD j Ht.no).dist := by
  by_cases e : i = j
  · subst e; exact Int.le_refl _
  · have h1 : ltH (l.getD j Ht.no) (l.getD i Ht.no) = false := by
      rw [List.getD_eq_getElem?_getD, List.getElem?_eq_getElem hj, List.getD_eq_getElem?_getD, List.getElem?_eq_getElem (by omega)]
      exact List.pairwise_iff_getElem.1 h i j (by omega) hj (by omega)
    rw [ltH_no] at h1; omega
theorem insH_perm (x : Ht) (l : List Ht) : (insH x l).Perm (x :: l) := by
  induction l with
  | nil => exact List.Perm.refl _
  | cons y l ih =>
    unfold insH
    split
    · exact List.Perm.refl _
    · exact (ih.cons y).trans (List.Perm.swap x y l)
theorem Tr.all_wh (kind : Int) (q : List Int) (t : Tr) : ∀ S, WH S → WH (t.all kind q S) := by
  induction t with
  | nil => intro S h; exact h
  | node x r a b iha ihb =>
    intro S h
    unfold Tr.all
    split
    · exact ihb _ (iha _ (wh_ins h))
    · exact iha _ (ihb _ (wh_ins h))
theorem Tr.all_perm (kind : Int) (q : List Int) (t : Tr) : ∀ S, (t.all kind q S).Perm (t.items.map (htIt kind q) ++ S) := by
  induction t with
  | nil => intro S; exact List.Perm.refl _
  | node x r a b iha ihb =>
    intro S
    have key : (Tr.node x r a b).items.map (htIt kind q) = htIt kind q x :: (a.items.map (htIt kind q) ++ b.items.map (htIt kind q)) := by simp [Tr.items]
    rw [key]
    have h0 : (insH ⟨x.key, dst kind x.pos q 4⟩ S).Perm (htIt kind q x :: S) := insH_perm _ _
    unfold Tr.all
    split
    · refine (ihb _).trans ?_
      refine ((iha _).append_left _).trans ?_
      refine ((h0.append_left _).append_left _).trans ?_
      rw [← List.append_assoc]
      refine List.perm_middle.trans (List.Perm.cons _ ?_)
      exact List.Perm.append_right S List.perm_append_comm
    · refine (iha _).trans ?_
      refine ((ihb _).append_left _).trans ?_
      refine ((h0.append_left _).append_left _).trans ?_
      rw [← List.append_assoc]
      exact List.perm_middle
theorem Tr.all_length (kind : Int) (q : List Int) (t : Tr) (S : List Ht) : (t.all kind q S).length = t.size + S.length := by
  rw [(t.all_perm kind q S).length_eq, List.length_append, List.length_map, Tr.items_length]
/-- a hit that is not nearer than the first k changes nothing in them -/
theorem take_far {x : Ht} : ∀ {k : Nat} {S : List Ht}, k ≤ S.length → (∀ y ∈ S.take k, ltH x y = false) → (insH x S).take k = S.take k := by
  intro k
  induction k with
  | zero => intro S _ _; simp
  | succ k ih =>
    intro S hk h
    cases S with
    | nil => simp at hk
    | cons y S =>
      have h0 : ltH x y = false := h y (by simp)
      unfold insH
      rw [if_neg (by rw [h0]; simp), List.take_succ_cons, List.take_succ_cons, ih (by simpa using hk) fun z hz => h z (by rw [List.take_succ_cons]; exact List.mem_cons_of_mem _ hz)]
theorem Tr.skip {kind : Int} {q : List Int} {k : Nat} {t : Tr} : ∀ {S : List Ht}, k ≤ S.length → (∀ z ∈ t.items, ∀ y ∈ S.take k, ltH (htIt kind q z) y = false) → (t.all kind q S).take k = S.take k := by
  induction t with
  | nil => intro S _ _; rfl
  | node x r a b iha ihb =>
    intro S hk h
    have h1 : (insH ⟨x.key, dst kind x.pos q 4⟩ S).take k = S.take k := take_far hk (h x (by simp [Tr.items]))
    have hl := insH_length ⟨x.key, dst kind x.pos q 4⟩ S
    unfold Tr.all
    split
    · have e1 := iha (S := insH ⟨x.key, dst kind x.pos q 4⟩ S) (by omega) (fun z hz y hy => h z (by simp [Tr.items, hz]) y (by rwa [h1] at hy))
      have e2 := ihb (S := a.all kind q (insH ⟨x.key, dst kind x.pos q 4⟩ S)) (by rw [Tr.all_length]; omega) (fun z hz y hy => h z (by simp [Tr.items, hz]) y (by rwa [e1, h1] at hy))
      rw [e2, e1, h1]
    · have e1 := ihb (S := insH ⟨x.key, dst kind x.pos q 4⟩ S) (by omega) (fun z hz y hy => h z (by simp [Tr.items, hz]) y (by rwa [h1] at hy))
      have e2 := iha (S := b.all kind q (insH ⟨x.key, dst kind x.pos q 4⟩ S)) (by rw [Tr.all_length]; omega) (fun z hz y hy => h z (by simp [Tr.items, hz]) y (by rwa [e1, h1] at hy))
      rw [e2, e1, h1]
/-- distances obey the triangle rule, but for squares -/
theorem adiff_tri (x y z : Int) : adiff x z ≤ adiff x y + adiff y z := by unfold adiff; split <;> split <;> split <;> omega
theorem dst_tri {kind : Int} (h3 : kind ≠ 3) (a b c : List Int) (k : Nat) : dst kind a c k ≤ dst kind a b k + dst kind b c k := by
  induction k with
  | zero => simp [dst]
  | succ k ih =>
    have ha := adiff_tri (a.getD k 0) (b.getD k 0) (c.getD k 0)
    have n1 := adiff_nonneg (a.getD k 0) (b.getD k 0)
    have n2 := adiff_nonneg (b.getD k 0) (c.getD k 0)
    simp only [dst]
    generalize adiff (a.getD k 0) (c.getD k 0) = u at *
    generalize adiff (a.getD k 0) (b.getD k 0) = v at *
    generalize adiff (b.getD k 0) (c.getD k 0) = w at *
    by_cases h1 : kind = 1
    · subst h1; rw [dstep_1, dstep_1, dstep_1]; omega
    · by_cases h2 : kind = 2
      · subst h2; rw [dstep_2, dstep_2, dstep_2]; split <;> split <;> split <;> omega
      · unfold dstep
        rw [if_neg h1, if_neg h1, if_neg h1, if_neg h2, if_neg h2, if_neg h2, if_neg h3, if_neg h3, if_neg h3]
        split <;> split <;> split <;> omega
/-- Near lies within the radius, Far without; all vectors have their bounds -/
def Tr.good (kind : Int) : Tr → Prop
  | .nil => True
  | .node x r a b => (0 ≤ r ∧ r ≤ 160000) ∧ coordsB x.pos = true ∧ (∀ y ∈ a.items, dst kind x.pos y.pos 4 ≤ r) ∧ (∀ y ∈ b.items, r ≤ dst kind x.pos y.pos 4) ∧ a.good kind ∧ b.good kind
theorem Tr.good_coords {kind : Int} {t : Tr} (h : t.good kind) : ∀ y ∈ t.items, coordsB y.pos = true := by
  induction t with
  | nil => intro y hy; cases hy
  | node x r a b iha ihb =>
    obtain ⟨_, h1, _, _, h4, h5⟩ := h
    intro y hy
    simp only [Tr.items, List.mem_cons, List.mem_append] at hy
    rcases hy with rfl | hy | hy
    · exact h1
    · exact iha h4 y hy
    · exact ihb h5 y hy
theorem rst_dist {kind : Int} {x : It} {xs : List It} {i j : Nat} (hij : i ≤ j) (hj : j < xs.length) : dst kind ((rst kind x xs).getD i It.no).pos x.pos 4 ≤ dst kind ((rst kind x xs).getD j It.no).pos x.pos 4 := by
  by_cases e : i = j
  · subst e; exact Int.le_refl _
  · have h1 := wi_at (srtI_wi kind x.pos xs xs.length) (show i < j by omega) (by rw [srtI_length]; exact hj)
    unfold ltI at h1
    rw [ltH_no] at h1
    have h2 : ¬ dst kind ((rst kind x xs).getD j It.no).pos x.pos 4 < dst kind ((rst kind x xs).getD i It.no).pos x.pos 4 := fun h => h1 (.inl h)
    omega
theorem tr_good (kind : Int) : ∀ n (l : List It), l.length ≤ n → (∀ y ∈ l, coordsB y.pos = true) → (tr kind l).good kind := by
  intro n
  induction n with
  | zero =>
    intro l h _
    have : l = [] := List.eq_nil_of_length_eq_zero (by omega)
    subst this
    exact trivial
  | succ n ih =>
    intro l h hv
    cases l with
    | nil => exact trivial
    | cons x xs =>
      have hl : xs.length ≤ n := by simpa using h
      have hx := hv x (List.mem_cons_self ..)
      have hm : ∀ y ∈ rst kind x xs, coordsB y.pos = true := fun y hy => hv y (List.mem_cons_of_mem _ (byD_mem.1 hy))
      have hL := rst_length kind x xs
      have hh := hf_le xs.length
      rw [tr_cons]
      have hat : ∀ j, j < xs.length → (rst kind x xs).getD j It.no ∈ rst kind x xs := fun j hj => by
        rw [List.getD_eq_getElem?_getD, List.getElem?_eq_getElem (by omega)]; exact List.getElem_mem _
      refine ⟨?_, hx, fun y hy => ?_, fun y hy => ?_, ih _ (by rw [List.length_take]; omega) fun y hy => hm y (List.mem_of_mem_take hy), ih _ (by rw [List.length_drop]; omega) fun y hy => hm y (List.mem_of_mem_drop hy)⟩
      · unfold rad
        split
        · have := dst_bd kind (hm _ (hat (hf xs.length - 1) (by omega))) hx 4
          exact ⟨this.1, by omega⟩
        · omega
      · rw [(tr_items kind _).mem_iff] at hy
        obtain ⟨i, hi, e⟩ := List.getElem_of_mem hy
        rw [List.length_take] at hi
        have e2 : (rst kind x xs).getD i It.no = y := by
          rw [List.getElem_take] at e
          rw [List.getD_eq_getElem?_getD, List.getElem?_eq_getElem (by omega), e]; rfl
        rw [dst_comm, ← e2]
        unfold rad
        rw [if_pos (by omega)]
        exact rst_dist (by omega) (by omega)
      · rw [(tr_items kind _).mem_iff] at hy
        obtain ⟨i, hi, e⟩ := List.getElem_of_mem hy
        rw [List.length_drop] at hi
        have e2 : (rst kind x xs).getD (hf xs.length + i) It.no = y := by
          rw [List.getElem_drop] at e
          rw [List.getD_eq_getElem?_getD, List.getElem?_eq_getElem (by omega), e]; rfl
        rw [dst_comm, ← e2]
        unfold rad
        split
        · exact rst_dist (by omega) (by omega)
        · next h0 => have : hf xs.length = 0 := by omega
                     rw [hf_zero] at this
                     omega
/-- .. of a valid store -/
theorem tr_store {ll : List It} (h : storeB ll = true) (kind : Int) : (tr kind ll).good kind := tr_good kind ll.length ll (Nat.le_refl _) fun y hy => by
  obtain ⟨i, hi, e⟩ := List.getElem_of_mem hy
  have := storeB_vec h hi
  rw [List.getD_eq_getElem?_getD, List.getElem?_eq_getElem hi, Option.getD_some, e] at this
  exact vecB_coords this
theorem rch_full {k : Nat} {S : List Ht} (hk : 1 ≤ k) (hl : k ≤ S.length) : rch k (S.take k) = (S.getD (k - 1) Ht.no).dist := by
  unfold rch
  rw [List.length_take, Nat.min_eq_left hl, if_neg (by omega), List.getD_eq_getElem?_getD, List.getElem?_take_of_lt (by omega), List.getD_eq_getElem?_getD]
theorem rch_few {k : Nat} {S : List Ht} (hl : S.length < k) : rch k (S.take k) = 1000000 := by
  unfold rch
  rw [List.length_take, if_pos (by omega)]
/-- what is farther than the reach changes nothing -/
theorem far_first {k : Nat} {S : List Ht} (hw : WH S) (hk : 1 ≤ k) (hl : k ≤ S.length) {z : Ht} (hz : rch k (S.take k) < z.dist) : ∀ y ∈ S.take k, ltH z y = false := fun y hy => by
  rw [rch_full hk hl] at hz
  obtain ⟨i, hi, e⟩ := List.getElem_of_mem hy
  rw [List.length_take] at hi
  rw [List.getElem_take] at e
  have := wh_at hw (show i ≤ k - 1 by omega) (by omega)
  rw [List.getD_eq_getElem?_getD, List.getElem?_eq_getElem (by omega), Option.getD_some, e] at this
  rw [ltH_no]; omega
/-- a search finds the first k of all -/
theorem Tr.vis_all {kind : Int} (h3 : kind ≠ 3) {q : List Int} (hq : coordsB q = true) {k : Nat} (hk : 1 ≤ k) {t : Tr} : t.good kind → ∀ {S : List Ht}, WH S → (t.vis kind q k (S.take k)).1 = (t.all kind q S).take k := by
  induction t with
  | nil => intro _ S _; rfl
  | node x r a b iha ihb =>
    intro hg S hw
    obtain ⟨hr, hx, hA, hB, ha, hb⟩ := hg
    have hd := dst_bd kind hx hq 4
    have hd2 : dst kind x.pos q 4 ≤ 160000 := by have := hd.2; omega
    have hw1 := wh_ins (x := ⟨x.key, dst kind x.pos q 4⟩) hw
    unfold Tr.vis Tr.all
    dsimp only
    rw [take_insH]
    by_cases hdr : dst kind x.pos q 4 ≤ r
    · rw [if_pos hdr, if_pos hdr, iha ha hw1]
      have hw2 := a.all_wh kind q _ hw1
      by_cases hc : r ≤ dst kind x.pos q 4 + rch k ((a.all kind q (insH ⟨x.key, dst kind x.pos q 4⟩ S)).take k)
      · rw [if_pos hc]; exact ihb hb hw2
      · rw [if_neg hc]
        by_cases hl : k ≤ (a.all kind q (insH ⟨x.key, dst kind x.pos q 4⟩ S)).length
        · refine (Tr.skip hl fun z hz => far_first hw2 hk hl ?_).symm
          have h1 := hB z hz
          have h2 := dst_tri h3 x.pos q z.pos 4
          rw [dst_comm kind q z.pos] at h2
          show _ < dst kind z.pos q 4
          omega
        · exfalso; rw [rch_few (by omega)] at hc; omega
    · rw [if_neg hdr, if_neg hdr, ihb hb hw1]
      have hw2 := b.all_wh kind q _ hw1
      by_cases hc : dst kind x.pos q 4 - rch k ((b.all kind q (insH ⟨x.key, dst kind x.pos q 4⟩ S)).take k) ≤ r
      · rw [if_pos hc]; exact iha ha hw2
      · rw [if_neg hc]
        by_cases hl : k ≤ (b.all kind q (insH ⟨x.key, dst kind x.pos q 4⟩ S)).length
        · refine (Tr.skip hl fun z hz => far_first hw2 hk hl ?_).symm
          have h1 := hA z hz
          have h2 := dst_tri h3 x.pos z.pos q 4
          show _ < dst kind z.pos q 4
          omega
        · exfalso; rw [rch_few (by omega)] at hc; omega
/-- the hits of a search in a store's tree are the nearest items -/
theorem search_near {kind : Int} (h3 : kind ≠ 3) {q : List Int} (hq : coordsB q = true) {k : Nat} (hk : 1 ≤ k) {ll : List It} (hs : storeB ll = true) : ((tr kind ll).vis kind q k []).1 = nrI kind q ll k := by
  have h := Tr.vis_all h3 hq hk (tr_store hs kind) (S := []) List.Pairwise.nil
  rw [List.take_nil] at h
  rw [h]
  unfold nrI nrN
  congr 1
  have hd := (storeB_AscI hs).nodup.keys kind q
  have hp : ((tr kind ll).all kind q []).Perm (lstN (htsI kind q ll) ll.length) := by
    refine ((tr kind ll).all_perm kind q []).trans ?_
    rw [List.append_nil]
    refine ((tr_items kind ll).map _).trans ?_
    have : ll.map (htIt kind q) = lstN (htsI kind q ll) ll.length := by
      refine List.ext_getElem (by rw [List.length_map, lstN_length]) fun i h1 h2 => ?_
      unfold lstN htsI
      rw [List.length_map] at h1
      simp only [List.getElem_map, List.getElem_range, List.getD_eq_getElem?_getD, List.getElem?_eq_getElem h1, Option.getD_some]
    rw [this]
  refine srtH_ext ?_ (srtN_srt hd) fun x => ?_
  · have h1 : WH ((tr kind ll).all kind q []) := Tr.all_wh kind q _ [] List.Pairwise.nil
    have h2 := (List.Perm.pairwise_iff (fun {a b : Ht} (h : a.key ≠ b.key) => Ne.symm h) hp).2 (lstN_keys hd)
    exact List.Pairwise.imp (fun {a b} (h : ltH b a = false ∧ a.key ≠ b.key) => ltH_total h.1 fun e => h.2 e.symm) (List.Pairwise.and h1 h2)
  · rw [hp.mem_iff, srtN_mem]
    unfold lstN
    rw [List.mem_map]
    constructor
    · rintro ⟨j, h1, rfl⟩; exact ⟨j, List.mem_range.1 h1, rfl⟩
    · rintro ⟨j, h1, rfl⟩; exact ⟨j, List.mem_range.2 h1, rfl⟩
/-- a search looks at each node once at most -/
theorem Tr.vis_le (kind : Int) (q : List Int) (k : Nat) (t : Tr) : ∀ h, (t.vis kind q k h).2 ≤ t.size := by
  induction t with
  | nil => intro h; exact Nat.le_refl _
  | node x r a b iha ihb =>
    intro h
    unfold Tr.vis Tr.size
    dsimp only
    have A := iha
    have B := ihb
    split
    · have h1 := A ((insH ⟨x.key, dst kind x.pos q 4⟩ h).take k)
      have h2 := B (a.vis kind q k ((insH ⟨x.key, dst kind x.pos q 4⟩ h).take k)).1
      split <;> dsimp only <;> omega
    · have h1 := B ((insH ⟨x.key, dst kind x.pos q 4⟩ h).take k)
      have h2 := A (b.vis kind q k ((insH ⟨x.key, dst kind x.pos q 4⟩ h).take k)).1
      split <;> dsimp only <;> omega
/-- .. and finds one item at most at each -/
theorem Tr.vis_more (kind : Int) (q : List Int) (k : Nat) (t : Tr) : ∀ h, (t.vis kind q k h).1.length ≤ h.length + (t.vis kind q k h).2 := by
  induction t with
  | nil => intro h; exact Nat.le_refl _
  | node x r a b iha ihb =>
    intro h
    have A := iha
    have B := ihb
    have h0 : ((insH ⟨x.key, dst kind x.pos q 4⟩ h).take k).length ≤ h.length + 1 := by rw [List.length_take, insH_length]; omega
    unfold Tr.vis
    dsimp only
    split
    · have h1 := A ((insH ⟨x.key, dst kind x.pos q 4⟩ h).take k)
      have h2 := B (a.vis kind q k ((insH ⟨x.key, dst kind x.pos q 4⟩ h).take k)).1
      split <;> dsimp only <;> omega
    · have h1 := B ((insH ⟨x.key, dst kind x.pos q 4⟩ h).take k)
      have h2 := A (b.vis kind q k ((insH ⟨x.key, dst kind x.pos q 4⟩ h).take k)).1
      split <;> dsimp only <;> omega
/-- who wants all items looks at all -/
theorem Tr.vis_full {kind : Int} {q : List Int} (hq : coordsB q = true) {k : Nat} {t : Tr} : t.good kind → ∀ {h : List Ht}, h.length + t.size ≤ k → (t.vis kind q k h).2 = t.size ∧ (t.vis kind q k h).1.length = h.length + t.size := by
  induction t with
  | nil => intro _ h _; exact ⟨rfl, rfl⟩
  | node x r a b iha ihb =>
    intro hg h hk
    obtain ⟨hr, hx, hA, hB, ha, hb⟩ := hg
    have hd := dst_bd kind hx hq 4
    have hd2 : dst kind x.pos q 4 ≤ 160000 := by have := hd.2; omega
    have hk' : h.length + (1 + a.size + b.size) ≤ k := hk
    have h0 : ((insH ⟨x.key, dst kind x.pos q 4⟩ h).take k).length = h.length + 1 := by rw [List.length_take, insH_length]; omega
    unfold Tr.vis
    dsimp only
    rw [show (Tr.node x r a b).size = 1 + a.size + b.size from rfl]
    split
    · obtain ⟨h1, h2⟩ := iha ha (h := (insH ⟨x.key, dst kind x.pos q 4⟩ h).take k) (by omega)
      obtain ⟨h3, h4⟩ := ihb hb (h := (a.vis kind q k ((insH ⟨x.key, dst kind x.pos q 4⟩ h).take k)).1) (by omega)
      split
      · dsimp only; omega
      · next hc =>
        by_cases hz : b.size = 0
        · dsimp only; omega
        · exfalso
          apply hc
          unfold rch
          rw [if_pos (by omega)]
          omega
    · obtain ⟨h1, h2⟩ := ihb hb (h := (insH ⟨x.key, dst kind x.pos q 4⟩ h).take k) (by omega)
      obtain ⟨h3, h4⟩ := iha ha (h := (b.vis kind q k ((insH ⟨x.key, dst kind x.pos q 4⟩ h).take k)).1) (by omega)
      split
      · dsimp only; omega
      · next hc =>
        by_cases hz : a.size = 0
        · dsimp only; omega
        · exfalso
          apply hc
          unfold rch
          rw [if_pos (by omega)]
          omega
/-- the reach for one item more is not less -/
theorem rch_more {k : Nat} (hk : 1 ≤ k) {S : List Ht} (hw : WH S) (hb : ∀ y ∈ S, y.dist ≤ 1000000) : rch k (S.take k) ≤ rch (k + 1) (S.take (k + 1)) := by
  by_cases h1 : S.length < k
  · rw [rch_few h1, rch_few (by omega)]; exact Int.le_refl _
  · by_cases h2 : S.length < k + 1
    · rw [rch_few h2, rch_full hk (by omega)]
      exact hb _ (mem_getD (by omega))
    · rw [rch_full hk (by omega), rch_full (by omega) (by omega)]
      exact wh_at hw (by omega) (by omega)
/-- who wants one item more looks at no fewer -/
theorem Tr.vis_mono {kind : Int} (h3 : kind ≠ 3) {q : List Int} (hq : coordsB q = true) {k : Nat} (hk : 1 ≤ k) {t : Tr} : t.good kind → ∀ {S : List Ht}, WH S → (∀ y ∈ S, y.dist ≤ 1000000) → (t.vis kind q k (S.take k)).2 ≤ (t.vis kind q (k + 1) (S.take (k + 1))).2 := by
  induction t with
  | nil => intro _ S _ _; exact Nat.le_refl _
  | node x r a b iha ihb =>
    intro hg S hw hS
    obtain ⟨hr, hx, hA, hB, ha, hb⟩ := hg
    have hd := dst_bd kind hx hq 4
    have hd2 : dst kind x.pos q 4 ≤ 160000 := by have := hd.2; omega
    have hw1 := wh_ins (x := ⟨x.key, dst kind x.pos q 4⟩) hw
    have hS1 : ∀ y ∈ insH ⟨x.key, dst kind x.pos q 4⟩ S, y.dist ≤ 1000000 := fun y hy => by
      rcases mem_insH.1 hy with rfl | hy
      · show dst kind x.pos q 4 ≤ 1000000; omega
      · exact hS y hy
    have grow : ∀ {t : Tr}, t.good kind → ∀ {T : List Ht}, (∀ y ∈ T, y.dist ≤ 1000000) → ∀ y ∈ t.all kind q T, y.dist ≤ 1000000 := fun {t} ht {T} hT y hy => by
      rcases List.mem_append.1 ((t.all_perm kind q T).mem_iff.1 hy) with hy | hy
      · obtain ⟨z, hz, rfl⟩ := List.mem_map.1 hy
        have := dst_bd kind (Tr.good_coords ht z hz) hq 4
        show dst kind z.pos q 4 ≤ 1000000
        omega
      · exact hT y hy
    unfold Tr.vis
    dsimp only
    rw [take_insH, take_insH]
    by_cases hdr : dst kind x.pos q 4 ≤ r
    · rw [if_pos hdr, if_pos hdr, Tr.vis_all h3 hq hk ha hw1, Tr.vis_all h3 hq (by omega) ha hw1]
      have hw2 := a.all_wh kind q _ hw1
      have hS2 := grow ha hS1
      have e1 := iha ha hw1 hS1
      have e2 := ihb hb hw2 hS2
      have e3 := rch_more hk hw2 hS2
      split
      · rw [if_pos (by omega)]; dsimp only; omega
      · split <;> dsimp only <;> omega
    · rw [if_neg hdr, if_neg hdr, Tr.vis_all h3 hq hk hb hw1, Tr.vis_all h3 hq (by omega) hb hw1]
      have hw2 := b.all_wh kind q _ hw1
      have hS2 := grow hb hS1
      have e1 := ihb hb hw1 hS1
      have e2 := iha ha hw2 hS2
      have e3 := rch_more hk hw2 hS2
      split
      · rw [if_pos (by omega)]; dsimp only; omega
      · split <;> dsimp only <;> omega
end Go.Proofs.Ytlammenejgagdaa
