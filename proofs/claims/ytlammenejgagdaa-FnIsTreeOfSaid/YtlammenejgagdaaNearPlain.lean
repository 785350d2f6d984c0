/-
  Plain facts on the nearest items: hits that are put in order one by one.
-/
import Derived.Test.YtlammenejgagdaaHitPlain
import Derived.Test.YtlammenejgagdaaItemPlain
namespace Go.Proofs.Ytlammenejgagdaa
set_option linter.unusedVariables false

/-- the first c of the hits f 0, f 1, .., in order -/
def srtN (f : Nat → Ht) : Nat → List Ht
  | 0 => []
  | c + 1 => insH (f c) (srtN f c)
theorem srtN_length (f : Nat → Ht) (c : Nat) : (srtN f c).length = c := by
  induction c with
  | zero => rfl
  | succ c ih => show (insH _ _).length = _; rw [insH_length, ih]
theorem srtN_mem {f : Nat → Ht} {c : Nat} {x : Ht} : x ∈ srtN f c ↔ ∃ j, j < c ∧ x = f j := by
  induction c with
  | zero => simp [srtN]
  | succ c ih =>
    show x ∈ insH _ _ ↔ _
    rw [mem_insH, ih]
    constructor
    · rintro (rfl | ⟨j, h1, h2⟩)
      · exact ⟨c, by omega, rfl⟩
      · exact ⟨j, by omega, h2⟩
    · rintro ⟨j, h1, h2⟩
      by_cases e : j = c
      · subst e; exact .inl h2
      · exact .inr ⟨j, by omega, h2⟩
/-- no two of the first n hits have one key -/
def KeysN (f : Nat → Ht) (n : Nat) : Prop := ∀ i j, i < j → j < n → (f i).key ≠ (f j).key
theorem KeysN.less {f : Nat → Ht} {n m : Nat} (h : KeysN f n) (hm : m ≤ n) : KeysN f m := fun i j h1 h2 => h i j h1 (by omega)
theorem srtN_srt {f : Nat → Ht} {n : Nat} (h : KeysN f n) : SrtH (srtN f n) := by
  induction n with
  | zero => exact List.Pairwise.nil
  | succ n ih =>
    refine srtH_ins (ih (h.less (by omega))) fun y hy => ?_
    obtain ⟨j, h1, rfl⟩ := srtN_mem.1 hy
    exact fun e => h j n h1 (by omega) e.symm
/-- the k nearest of the first c, as the reference keeps them -/
def nrN (f : Nat → Ht) (k c : Nat) : List Ht := (srtN f c).take k
theorem nrN_succ (f : Nat → Ht) (k c : Nat) : nrN f k (c + 1) = (insH (f c) (nrN f k c)).take k := (take_insH _ _ _).symm
theorem nrN_length (f : Nat → Ht) (k c : Nat) : (nrN f k c).length = min k c := by unfold nrN; rw [List.length_take, srtN_length]
theorem nrN_srt {f : Nat → Ht} {n : Nat} (h : KeysN f n) (k : Nat) : SrtH (nrN f k n) := srtH_take (srtN_srt h) k
theorem nrN_mem {f : Nat → Ht} {k n : Nat} {x : Ht} (h : x ∈ nrN f k n) : ∃ j, j < n ∧ x = f j := srtN_mem.1 (List.mem_of_mem_take h)
/-- lists in order with the same members are one -/
theorem srtH_ext : ∀ {l m : List Ht}, SrtH l → SrtH m → (∀ x, x ∈ l ↔ x ∈ m) → l = m := by
  intro l
  induction l with
  | nil =>
    intro m _ _ h
    cases m with
    | nil => rfl
    | cons y m => exact absurd ((h y).2 (List.mem_cons_self ..)) (by simp)
  | cons x l ih =>
    intro m hl hm h
    cases m with
    | nil => exact absurd ((h x).1 (List.mem_cons_self ..)) (by simp)
    | cons y m =>
      have h1 := List.pairwise_cons.1 hl
      have h2 := List.pairwise_cons.1 hm
      have irr : ∀ z : Ht, ltH z z = true → False := fun z hz => by rw [ltH_iff] at hz; omega
      have hxy : x = y := by
        rcases List.mem_cons.1 ((h x).1 (List.mem_cons_self ..)) with e | e
        · exact e
        · rcases List.mem_cons.1 ((h y).2 (List.mem_cons_self ..)) with e' | e'
          · exact e'.symm
          · exact (irr x (ltH_trans (h1.1 y e') (h2.1 x e))).elim
      subst hxy
      rw [ih h1.2 h2.2 fun z => ?_]
      constructor
      · intro hz
        rcases List.mem_cons.1 ((h z).1 (List.mem_cons_of_mem _ hz)) with e | e
        · subst e; exact (irr z (h1.1 z hz)).elim
        · exact e
      · intro hz
        rcases List.mem_cons.1 ((h z).2 (List.mem_cons_of_mem _ hz)) with e | e
        · subst e; exact (irr z (h2.1 z hz)).elim
        · exact e
/-- sorting puts hits with different keys in their order -/
theorem mergeH {L S : List Ht} (hk : L.Pairwise fun a b => a.key ≠ b.key) (hs : SrtH S) (hm : ∀ x, x ∈ S ↔ x ∈ L) : (L.mergeSort fun x y => !ltH y x) = S := by
  refine srtH_ext ?_ hs fun x => by rw [List.mem_mergeSort, hm]
  have h1 : (L.mergeSort fun x y => !ltH y x).Pairwise fun a b => (!ltH b a) = true :=
    List.pairwise_mergeSort (fun a b c hab hbc => by
      simp only [Bool.not_eq_true', ltH_no] at *
      omega) (fun a b => by
      cases h : ltH b a
      · rfl
      · have : ltH a b = false := by rw [ltH_no]; rw [ltH_iff] at h; omega
        rw [this]; rfl) L
  have h2 : (L.mergeSort fun x y => !ltH y x).Pairwise fun a b => a.key ≠ b.key :=
    (List.Perm.pairwise_iff (fun {a b} (h : a.key ≠ b.key) => Ne.symm h) (List.mergeSort_perm L _)).2 hk
  exact List.Pairwise.imp (fun {a b} (h : (!ltH b a) = true ∧ a.key ≠ b.key) => ltH_total (by simpa using h.1) (fun e => h.2 e.symm)) (List.Pairwise.and h1 h2)
/-- the first n hits, as they come -/
def lstN (f : Nat → Ht) (n : Nat) : List Ht := (List.range n).map f
theorem lstN_length (f : Nat → Ht) (n : Nat) : (lstN f n).length = n := by unfold lstN; simp
theorem lstN_succ (f : Nat → Ht) (n : Nat) : lstN f (n + 1) = lstN f n ++ [f n] := by unfold lstN; rw [List.range_succ, List.map_append]; rfl
theorem lstN_keys {f : Nat → Ht} {n : Nat} (h : KeysN f n) : (lstN f n).Pairwise fun a b => a.key ≠ b.key := by
  induction n with
  | zero => exact List.Pairwise.nil
  | succ n ih =>
    rw [lstN_succ, List.pairwise_append]
    refine ⟨ih (h.less (by omega)), List.pairwise_singleton _ _, fun a ha b hb => ?_⟩
    unfold lstN at ha
    obtain ⟨j, hj, rfl⟩ := List.mem_map.1 ha
    rw [List.mem_singleton] at hb
    subst hb
    exact h j n (List.mem_range.1 hj) (Nat.lt_succ_self n)
theorem lstN_sort {f : Nat → Ht} {n : Nat} (h : KeysN f n) : ((lstN f n).mergeSort fun x y => !ltH y x) = srtN f n :=
  mergeH (lstN_keys h) (srtN_srt h) fun x => by
    rw [srtN_mem]
    unfold lstN
    rw [List.mem_map]
    constructor
    · rintro ⟨j, h1, rfl⟩; exact ⟨j, List.mem_range.2 h1, rfl⟩
    · rintro ⟨j, h1, rfl⟩; exact ⟨j, List.mem_range.1 h1, rfl⟩
/-- the hit of an item -/
def htIt (kind : Int) (m : List Int) (x : It) : Ht := ⟨x.key, dst kind x.pos m 4⟩
/-- the hits of a list of items -/
def htsI (kind : Int) (m : List Int) (ll : List It) (j : Nat) : Ht := htIt kind m (ll.getD j It.no)
/-- the k nearest items -/
def nrI (kind : Int) (m : List Int) (ll : List It) (k : Nat) : List Ht := nrN (htsI kind m ll) k ll.length
/-- the items' keys ascend -/
def AscI (ll : List It) : Prop := ∀ i j, i < j → j < ll.length → (ll.getD i It.no).key < (ll.getD j It.no).key
theorem storeB_AscI {ll : List It} (h : storeB ll = true) : AscI ll := fun i j hij hj => storeB_asc h j hj i hij
/-- no two items have one key -/
def NoDup (ll : List It) : Prop := ∀ i j, i < j → j < ll.length → (ll.getD i It.no).key ≠ (ll.getD j It.no).key
theorem AscI.nodup {ll : List It} (h : AscI ll) : NoDup ll := fun i j h1 h2 => by have := h i j h1 h2; omega
theorem NoDup.keys {ll : List It} (h : NoDup ll) (kind : Int) (m : List Int) : KeysN (htsI kind m ll) ll.length := h
theorem nrI_length (kind : Int) (m : List Int) (ll : List It) (k : Nat) : (nrI kind m ll k).length = min k ll.length := nrN_length _ _ _
end Go.Proofs.Ytlammenejgagdaa
