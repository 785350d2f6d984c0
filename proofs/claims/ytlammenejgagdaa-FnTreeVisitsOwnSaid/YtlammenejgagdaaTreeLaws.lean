/-
  Plain laws of what TreeVisits answers.
-/
import Derived.Test.YtlammenejgagdaaTreeSpec
namespace Go.Proofs.Ytlammenejgagdaa
open Go.RowKit
set_option linter.unusedVariables false

theorem tvV_tree {kind : Int} {q : List Int} {ll : List It} {k : Int} (h : ¬ tvV kind q ll k < 0) : treeB ll kind q k = true := by
  cases ht : treeB ll kind q k
  · rw [tvV_no ht] at h
    omega
  · rfl
theorem treeB_store {ll : List It} {kind : Int} {q : List Int} {k : Int} (h : treeB ll kind q k = true) : storeB ll = true := qryB_store (findB_qry (treeB_find h))
theorem treeB_vec {ll : List It} {kind : Int} {q : List Int} {k : Int} (h : treeB ll kind q k = true) : vecB q 4 = true := qryB_vec (findB_qry (treeB_find h))
theorem treeB_met {ll : List It} {kind : Int} {q : List Int} {k : Int} (h : treeB ll kind q k = true) : metB kind = true := by
  unfold treeB at h
  simp only [Bool.and_eq_true] at h
  exact h.2
theorem metB_knd {kind : Int} (h : metB kind = true) : kndB kind = true := by
  unfold metB at h
  simp only [Bool.and_eq_true] at h
  exact h.1
/-- .. for another number, another vector, another store -/
theorem treeB_with {ll ll' : List It} {kind : Int} {q q' : List Int} {k k' : Int} (h : treeB ll kind q k = true) (hs : storeB ll' = true) (hv : vecB q' 4 = true) (hk : 1 ≤ k' ∧ k' ≤ 16) : treeB ll' kind q' k' = true := by
  have hm := treeB_met h
  refine treeB_mk ?_ hm hk
  unfold qryB
  rw [hs, metB_knd hm, hv]
  rfl
theorem tvV_few {kind : Int} {q : List Int} {ll : List It} {k : Int} (h : treeB ll kind q k = true) : ((tnV kind q ll k).length : Int) ≤ tvV kind q ll k ∧ tvV kind q ll k ≤ (ll.length : Int) := by
  have hk := findB_num (treeB_find h)
  obtain ⟨n, rfl⟩ : ∃ n : Nat, k = (n : Int) := ⟨k.toNat, by omega⟩
  have h1 := search_near (treeB_ne h) (vecB_coords (treeB_vec h)) (show 1 ≤ n by omega) (treeB_store h)
  have h2 := Tr.vis_more kind q n (tr kind ll) []
  have h3 := Tr.vis_le kind q n (tr kind ll) []
  rw [tr_size] at h3
  rw [tvV_yes h, tnV_yes h, Int.toNat_natCast, ← h1]
  have h4 : ([] : List Ht).length = 0 := rfl
  omega
theorem tvV_full {kind : Int} {q : List Int} {ll : List It} {k : Int} (h : treeB ll kind q k = true) : tvV kind q ll 16 = (ll.length : Int) := by
  have h16 := treeB_with h (treeB_store h) (treeB_vec h) (show (1 : Int) ≤ 16 ∧ (16 : Int) ≤ 16 by omega)
  have hl := storeB_len (treeB_store h)
  have h1 := (Tr.vis_full (k := 16) (vecB_coords (treeB_vec h)) (tr_store (treeB_store h) kind) (h := []) (by rw [tr_size]; show 0 + _ ≤ 16; omega)).1
  rw [tvV_yes h16, show ((16 : Int)).toNat = 16 from rfl, h1, tr_size]
theorem tvV_more {kind : Int} {q : List Int} {ll : List It} {k : Int} (h : treeB ll kind q k = true) (hk : k ≠ 16) : tvV kind q ll k ≤ tvV kind q ll (k + 1) := by
  have hk1 := findB_num (treeB_find h)
  obtain ⟨n, rfl⟩ : ∃ n : Nat, k = (n : Int) := ⟨k.toNat, by omega⟩
  have h2 := treeB_with h (treeB_store h) (treeB_vec h) (show (1 : Int) ≤ (n : Int) + 1 ∧ (n : Int) + 1 ≤ 16 by omega)
  have h1 := Tr.vis_mono (treeB_ne h) (vecB_coords (treeB_vec h)) (show 1 ≤ n by omega) (tr_store (treeB_store h) kind) (S := []) List.Pairwise.nil (fun y hy => by cases hy)
  rw [List.take_nil, List.take_nil] at h1
  rw [tvV_yes h, tvV_yes h2, Int.toNat_natCast, show ((n : Int) + 1).toNat = n + 1 by omega]
  omega
theorem Tr.vis_one {kind : Int} {q : List Int} {k : Nat} {x : It} {r : Int} {a b : Tr} {h : List Ht} : 1 ≤ ((Tr.node x r a b).vis kind q k h).2 := by
  unfold Tr.vis
  dsimp only
  split
  · split <;> dsimp only <;> omega
  · split <;> dsimp only <;> omega
theorem storeB_one {ll : List It} (h : storeB ll = true) : storeB (ll.take 1) = true := by
  cases ll with
  | nil => exact h
  | cons x xs =>
    have h0 := goodTo_at (storeB_good h) (show 0 < (x :: xs).length by simp)
    refine storeB_mk ?_ (by simp)
    show goodTo [x] (0 + 1) = true
    rw [goodTo_succ, goodTo_zero]
    exact h0
theorem tvV_own {kind : Int} {q : List Int} {ll : List It} {k : Int} (h : treeB ll kind q k = true) (h1 : 1 ≤ ll.length) : tvV kind q (ll.take 1) k = 1 ∧ 1 ≤ tvV kind (ll.getD 0 It.no).pos ll 1 := by
  have hk1 := findB_num (treeB_find h)
  have hs := treeB_store h
  have hA := treeB_with h (storeB_one hs) (treeB_vec h) hk1
  have hB := treeB_with h hs (storeB_vec hs (show 0 < ll.length by omega)) (show (1 : Int) ≤ 1 ∧ (1 : Int) ≤ 16 by omega)
  rw [tvV_yes hA, tvV_yes hB]
  have h2 := Tr.vis_le kind q k.toNat (tr kind (ll.take 1)) []
  rw [tr_size] at h2
  cases ll with
  | nil => simp at h1
  | cons x xs =>
    have e1 : tr kind ((x :: xs).take 1) = .node x (rad kind x []) .nil .nil := tr_cons kind x []
    have h3 := Tr.vis_one (kind := kind) (q := q) (k := k.toNat) (x := x) (r := rad kind x []) (a := .nil) (b := .nil) (h := [])
    have h4 := Tr.vis_one (kind := kind) (q := x.pos) (k := 1) (x := x) (r := rad kind x xs) (a := tr kind ((rst kind x xs).take (hf xs.length))) (b := tr kind ((rst kind x xs).drop (hf xs.length))) (h := [])
    rw [← e1] at h3
    rw [← tr_cons] at h4
    have h5 : ((x :: xs).take 1).length = 1 := by simp
    rw [show ((1 : Int)).toNat = 1 from rfl]
    constructor
    · omega
    · show (1 : Int) ≤ (((tr kind (x :: xs)).vis kind x.pos 1 []).2 : Int)
      omega
theorem tvV_some {kind : Int} {q : List Int} {ll : List It} {k : Int} (h : ¬ tvV kind q ll k < 1) : treeB ll kind q k = true ∧ 1 ≤ ll.length := by
  have ht := tvV_tree (show ¬ tvV kind q ll k < 0 by omega)
  have := (tvV_few ht).2
  exact ⟨ht, by omega⟩
end Go.Proofs.Ytlammenejgagdaa
