/-
  Slices of slices of ints that read as lists of lists.
-/
import Derived.Test.YtlammenejgagdaaInts
import Derived.Test.YtlammenejgagdaaVecPlain
namespace Go.Proofs.Ytlammenejgagdaa
open Go.RowKit
set_option linter.unusedVariables false

/-- The slice value '.slice a ll.length cap' reads as ll; its cells and those of its rows lie in the blocks lo .. hi-1. -/
structure Lists (w : World) (lo hi : Nat) (a : Option Addr) (ll : List (List Int)) : Prop where
  cells : ll ≠ [] → ∃ b off, a = some ⟨b, off, none⟩ ∧ lo ≤ b ∧ b < hi ∧ ∀ j, j < ll.length → ∃ aj cj, w.cell? ⟨b, off + j, none⟩ = some (.slice aj (ll.getD j []).length cj) ∧ Ints w lo hi aj (ll.getD j [])
  len : ll.length ≤ 9223372036854775807

namespace Lists
variable {w w' : World} {lo hi lo' hi' : Nat} {a : Option Addr} {ll : List (List Int)}
theorem nil (w : World) (lo hi : Nat) (a : Option Addr) : Lists w lo hi a [] := ⟨fun h => absurd rfl h, by simp⟩
theorem at_ (h : Lists w lo hi a ll) {k : Nat} (hk : k < ll.length) : ∃ b off aj cj, a = some ⟨b, off, none⟩ ∧ lo ≤ b ∧ b < hi ∧ w.cell? ⟨b, off + k, none⟩ = some (.slice aj (ll.getD k []).length cj) ∧ Ints w lo hi aj (ll.getD k []) := by
  obtain ⟨b, off, ha, h1, h2, h3⟩ := h.cells (by intro e; subst e; simp at hk)
  obtain ⟨aj, cj, h4, h5⟩ := h3 k hk
  exact ⟨b, off, aj, cj, ha, h1, h2, h4, h5⟩
theorem upd (h : Lists w lo hi a ll) (u : Upd lo' hi' w w') (hd : hi ≤ lo' ∨ hi' ≤ lo ∨ hi' ≤ lo') : Lists w' lo hi a ll := by
  refine ⟨fun hne => ?_, h.len⟩
  obtain ⟨b, off, ha, h1, h2, h3⟩ := h.cells hne
  refine ⟨b, off, ha, h1, h2, fun j hj => ?_⟩
  obtain ⟨aj, cj, h4, h5⟩ := h3 j hj
  exact ⟨aj, cj, u.cell h4 (by show b < lo' ∨ hi' ≤ b; omega), h5.upd u hd⟩
theorem below (h : Lists w lo hi a ll) (u : Below w.heap.size w w') : Lists w' lo hi a ll := h.upd (Upd.of_below (lo := 0) (hi := 0) u) (by omega)
theorem drawn (h : Lists w lo hi a ll) (d : Drawn w w') : Lists w' lo hi a ll := h.upd (d.upd (lo := 0) (hi := 0)) (by omega)
theorem wide (h : Lists w lo hi a ll) (h1 : lo' ≤ lo) (h2 : hi ≤ hi') : Lists w lo' hi' a ll := by
  refine ⟨fun hne => ?_, h.len⟩
  obtain ⟨b, off, ha, k1, k2, k3⟩ := h.cells hne
  refine ⟨b, off, ha, by omega, by omega, fun j hj => ?_⟩
  obtain ⟨aj, cj, h4, h5⟩ := k3 j hj
  exact ⟨aj, cj, h4, h5.wide h1 h2⟩
/-- the first lists alone -/
theorem take (h : Lists w lo hi a ll) (k : Nat) : Lists w lo hi a (ll.take k) := by
  refine ⟨fun hne => ?_, by have := h.len; simp; omega⟩
  obtain ⟨b, off, ha, k1, k2, k3⟩ := h.cells (by rintro rfl; simp at hne)
  refine ⟨b, off, ha, k1, k2, fun j hj => ?_⟩
  have hj' : j < ll.length ∧ j < k := by simp at hj; omega
  have e : (ll.take k).getD j [] = ll.getD j [] := by rw [List.getD_eq_getElem?_getD, List.getD_eq_getElem?_getD, List.getElem?_take_of_lt hj'.2]
  rw [e]
  exact k3 j hj'.1
theorem drop {b off : Nat} (h : Lists w lo hi (some ⟨b, off, none⟩) ll) (k : Nat) : Lists w lo hi (some ⟨b, off + k, none⟩) (ll.drop k) := by
  refine ⟨fun hne => ?_, by have := h.len; simp; omega⟩
  obtain ⟨b', off', ha, k1, k2, k3⟩ := h.cells (by rintro rfl; simp at hne)
  simp only [Option.some.injEq, Addr.mk.injEq] at ha
  obtain ⟨rfl, rfl, _⟩ := ha
  refine ⟨b, off + k, rfl, k1, k2, fun j hj => ?_⟩
  have hj' : k + j < ll.length := by simp at hj; omega
  have e : (ll.drop k).getD j [] = ll.getD (k + j) [] := by rw [List.getD_eq_getElem?_getD, List.getD_eq_getElem?_getD, List.getElem?_drop]
  rw [e, Nat.add_assoc]
  exact k3 (k + j) hj'
theorem addr (h : Lists w lo hi a ll) (hl : 1 ≤ ll.length) : ∃ b off, a = some ⟨b, off, none⟩ := by
  obtain ⟨b, off, _, _, ha, _⟩ := h.at_ (show 0 < ll.length by omega)
  exact ⟨b, off, ha⟩
end Lists

/-- all rows are vectors of n coordinates -/
def vecsB (ll : List (List Int)) (n : Int) : Bool := ll.all fun v => vecB v n
/-- 'one to most vectors' -/
def cenB (ll : List (List Int)) (most : Int) : Bool := vecsB ll 4 && (decide (1 ≤ (ll.length : Int)) && decide ((ll.length : Int) ≤ most))

theorem vecsB_take_succ (ll : List (List Int)) (n : Int) (k : Nat) (hk : k < ll.length) : vecsB (ll.take (k + 1)) n = (vecsB (ll.take k) n && vecB (ll.getD k []) n) := by
  unfold vecsB
  rw [List.take_succ_eq_append_getElem hk, List.all_append, List.getD_eq_getElem?_getD, List.getElem?_eq_getElem hk]
  simp
theorem getD_mem {α : Type} {l : List α} {k : Nat} (d : α) (hk : k < l.length) : l.getD k d ∈ l := by
  rw [List.getD_eq_getElem?_getD, List.getElem?_eq_getElem hk]
  exact List.getElem_mem _
theorem vecsB_no (ll : List (List Int)) (n : Int) (k : Nat) (hk : k < ll.length) (h : vecB (ll.getD k []) n = false) : vecsB ll n = false := by
  unfold vecsB
  rw [List.all_eq_false]
  exact ⟨ll.getD k [], getD_mem [] hk, by simpa using h⟩
theorem vecsB_at {ll : List (List Int)} {n : Int} (h : vecsB ll n = true) {k : Nat} (hk : k < ll.length) : vecB (ll.getD k []) n = true := by
  unfold vecsB at h
  rw [List.all_eq_true] at h
  exact h _ (getD_mem [] hk)
theorem cenB_vecs {ll : List (List Int)} {m : Int} (h : cenB ll m = true) : vecsB ll 4 = true := by
  unfold cenB at h; simp only [Bool.and_eq_true] at h; exact h.1
theorem cenB_len {ll : List (List Int)} {m : Int} (h : cenB ll m = true) : 1 ≤ ll.length ∧ (ll.length : Int) ≤ m := by
  unfold cenB at h; simp only [Bool.and_eq_true, decide_eq_true_eq] at h; omega
theorem cenB_at {ll : List (List Int)} {m : Int} (h : cenB ll m = true) {k : Nat} (hk : k < ll.length) : vecB (ll.getD k []) 4 = true := vecsB_at (cenB_vecs h) hk
theorem cenB_mk {ll : List (List Int)} {m : Int} (h : vecsB ll 4 = true) (h1 : 1 ≤ (ll.length : Int)) (h2 : (ll.length : Int) ≤ m) : cenB ll m = true := by
  unfold cenB; rw [h, decide_eq_true h1, decide_eq_true h2]; rfl
theorem cenB_no_vecs {ll : List (List Int)} {m : Int} (h : vecsB ll 4 = false) : cenB ll m = false := by
  unfold cenB; rw [h]; rfl
theorem cenB_no_len {ll : List (List Int)} {m : Int} (h : ¬ (1 ≤ (ll.length : Int) ∧ (ll.length : Int) ≤ m)) : cenB ll m = false := by
  cases hc : cenB ll m with
  | false => rfl
  | true => have := cenB_len hc; omega
theorem cenB_sub {ll : List (List Int)} {m : Int} (h : cenB ll m = true) {lk : List (List Int)} (hs : ∀ x ∈ lk, x ∈ ll) (h1 : 1 ≤ lk.length) (h2 : (lk.length : Int) ≤ m) : cenB lk m = true := by
  refine cenB_mk ?_ (by omega) h2
  have hv := cenB_vecs h
  unfold vecsB at hv ⊢
  rw [List.all_eq_true] at hv ⊢
  exact fun x hx => hv x (hs x hx)
theorem getD_last {α : Type} (l : List α) (x d : α) : (l ++ [x]).getD l.length d = x := by
  rw [List.getD_eq_getElem?_getD, List.getElem?_append_right (Nat.le_refl _)]; simp
theorem cenB_snoc {ll : List (List Int)} {m : List Int} {most : Int} (h : cenB ll most = true) (hm : vecB m 4 = true) (hl : ((ll.length + 1 : Nat) : Int) ≤ most) : cenB (ll ++ [m]) most = true := by
  refine cenB_mk ?_ (by simp; omega) (by simp; omega)
  have hv := cenB_vecs h
  unfold vecsB at hv ⊢
  rw [List.all_append, hv]
  simpa using hm
end Go.Proofs.Ytlammenejgagdaa
