/-
  Slices of ints that read as lists, and how such a reading stands while the world grows.
-/
import Derived.Test.YtlammenejgagdaaBase
namespace Go.Proofs.Ytlammenejgagdaa
open Go.RowKit
set_option linter.unusedVariables false

/-- The slice value '.slice a l.length cap' reads as l; its cells lie in the blocks lo .. hi-1. -/
structure Ints (w : World) (lo hi : Nat) (a : Option Addr) (l : List Int) : Prop where
  cells : l ≠ [] → ∃ b off, a = some ⟨b, off, none⟩ ∧ lo ≤ b ∧ b < hi ∧ ∀ j, j < l.length → w.cell? ⟨b, off + j, none⟩ = some (.int .i64 (l.getD j 0))
  len : l.length ≤ 9223372036854775807
  ok : ∀ x ∈ l, -9223372036854775808 ≤ x ∧ x ≤ 9223372036854775807

namespace Ints
variable {w w' : World} {lo hi lo' hi' : Nat} {a : Option Addr} {l : List Int}
theorem nil (w : World) (lo hi : Nat) (a : Option Addr) : Ints w lo hi a [] := ⟨fun h => absurd rfl h, by simp, fun x h => by cases h⟩
/-- the place of the k-th element, and what is known of it -/
theorem at_ (h : Ints w lo hi a l) {k : Nat} (hk : k < l.length) : ∃ b off, a = some ⟨b, off, none⟩ ∧ lo ≤ b ∧ b < hi ∧ w.cell? ⟨b, off + k, none⟩ = some (.int .i64 (l.getD k 0)) ∧
    -9223372036854775808 ≤ l.getD k 0 ∧ l.getD k 0 ≤ 9223372036854775807 := by
  obtain ⟨b, off, ha, h1, h2, h3⟩ := h.cells (by intro e; subst e; simp at hk)
  refine ⟨b, off, ha, h1, h2, h3 k hk, ?_⟩
  have hm : l.getD k 0 ∈ l := by
    rw [List.getD_eq_getElem?_getD, List.getElem?_eq_getElem hk]
    exact List.getElem_mem _
  exact h.ok _ hm
theorem upd (h : Ints w lo hi a l) (u : Upd lo' hi' w w') (hd : hi ≤ lo' ∨ hi' ≤ lo ∨ hi' ≤ lo') : Ints w' lo hi a l := by
  refine ⟨fun hne => ?_, h.len, h.ok⟩
  obtain ⟨b, off, ha, h1, h2, h3⟩ := h.cells hne
  exact ⟨b, off, ha, h1, h2, fun j hj => u.cell (h3 j hj) (by show b < lo' ∨ hi' ≤ b; omega)⟩
theorem below (h : Ints w lo hi a l) (u : Below w.heap.size w w') : Ints w' lo hi a l := h.upd (Upd.of_below (lo := 0) (hi := 0) u) (by omega)
theorem drewN (h : Ints w lo hi a l) (n : Nat) : Ints (w.drewN n) lo hi a l := h.upd (Upd.drewN (lo := 0) (hi := 0) w n) (by omega)
theorem drawn (h : Ints w lo hi a l) (d : Drawn w w') : Ints w' lo hi a l := h.upd (d.upd (lo := 0) (hi := 0)) (by omega)
theorem wide (h : Ints w lo hi a l) (h1 : lo' ≤ lo) (h2 : hi ≤ hi') : Ints w lo' hi' a l := by
  refine ⟨fun hne => ?_, h.len, h.ok⟩
  obtain ⟨b, off, ha, k1, k2, k3⟩ := h.cells hne
  exact ⟨b, off, ha, by omega, by omega, k3⟩
theorem drop {b off : Nat} (h : Ints w lo hi (some ⟨b, off, none⟩) l) (k : Nat) : Ints w lo hi (some ⟨b, off + k, none⟩) (l.drop k) := by
  refine ⟨fun hne => ?_, by have := h.len; simp; omega, fun x hx => h.ok x (List.mem_of_mem_drop hx)⟩
  obtain ⟨b', off', ha, k1, k2, k3⟩ := h.cells (by rintro rfl; simp at hne)
  simp only [Option.some.injEq, Addr.mk.injEq] at ha
  obtain ⟨rfl, rfl, _⟩ := ha
  refine ⟨b, off + k, rfl, k1, k2, fun j hj => ?_⟩
  have hj' : k + j < l.length := by simp at hj; omega
  have e : (l.drop k).getD j 0 = l.getD (k + j) 0 := by rw [List.getD_eq_getElem?_getD, List.getD_eq_getElem?_getD, List.getElem?_drop]
  rw [e, ← k3 (k + j) hj', Nat.add_assoc]
theorem take (h : Ints w lo hi a l) (k : Nat) : Ints w lo hi a (l.take k) := by
  refine ⟨fun hne => ?_, by have := h.len; simp; omega, fun x hx => h.ok x (List.mem_of_mem_take hx)⟩
  obtain ⟨b, off, ha, k1, k2, k3⟩ := h.cells (by rintro rfl; simp at hne)
  refine ⟨b, off, ha, k1, k2, fun j hj => ?_⟩
  have hj' : j < l.length ∧ j < k := by simp at hj; omega
  have e : (l.take k).getD j 0 = l.getD j 0 := by rw [List.getD_eq_getElem?_getD, List.getD_eq_getElem?_getD, List.getElem?_take_of_lt hj'.2]
  rw [e]
  exact k3 j hj'.1
end Ints

end Go.Proofs.Ytlammenejgagdaa
