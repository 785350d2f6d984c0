/-
  Slices of items that the call itself has made, of items whose vectors lie elsewhere.
-/
import Derived.Test.YtlammenejgagdaaItemOwn
namespace Go.Proofs.Ytlammenejgagdaa
open Go.RowKit
set_option linter.unusedVariables false

theorem Ints.all {w : World} {lo hi : Nat} {a : Option Addr} {l : List Int} (h : Ints w lo hi a l) : Ints w 0 w.heap.size a l := by
  refine ⟨fun hne => ?_, h.len, h.ok⟩
  obtain ⟨b, off, ha, _, _, h3⟩ := h.cells hne
  exact ⟨b, off, ha, Nat.zero_le _, World.block_lt_of_cell? w _ (h3 0 (List.length_pos_iff.2 hne)), h3⟩
theorem Lists.all {w : World} {lo hi : Nat} {a : Option Addr} {ll : List (List Int)} (h : Lists w lo hi a ll) : Lists w 0 w.heap.size a ll := by
  refine ⟨fun hne => ?_, h.len⟩
  obtain ⟨b, off, ha, _, _, h3⟩ := h.cells hne
  obtain ⟨aj, cj, h4, _⟩ := h3 0 (List.length_pos_iff.2 hne)
  refine ⟨b, off, ha, Nat.zero_le _, World.block_lt_of_cell? w _ h4, fun j hj => ?_⟩
  obtain ⟨aj, cj, h4, h5⟩ := h3 j hj
  exact ⟨aj, cj, h4, h5.all⟩
/-- cells of items whose vectors lie elsewhere -/
def RwsIR (w : World) (lo hi : Nat) (vs : List Value) (ll : List It) : Prop :=
  vs.length = ll.length * 3 ∧ ∀ j, j < ll.length → ∃ aj cj, vs[j * 3]? = some (.int .i64 (ll.getD j It.no).key) ∧ vs[j * 3 + 1]? = some (.slice aj (ll.getD j It.no).pos.length cj) ∧ vs[j * 3 + 2]? = some (.int .i64 (ll.getD j It.no).tags) ∧ ItV w lo hi (ll.getD j It.no) aj cj
theorem rwsIR_nil (w : World) (lo hi : Nat) : RwsIR w lo hi [] [] := ⟨rfl, fun j hj => by simp at hj⟩
theorem RwsIR.upd {w w' : World} {lo hi lo' hi' : Nat} {vs : List Value} {ll : List It} (h : RwsIR w lo hi vs ll) (u : Upd lo' hi' w w') (hd : hi ≤ lo' ∨ hi' ≤ lo ∨ hi' ≤ lo') : RwsIR w' lo hi vs ll :=
  ⟨h.1, fun j hj => by
    obtain ⟨aj, cj, h1, h2, h3, h4⟩ := h.2 j hj
    exact ⟨aj, cj, h1, h2, h3, h4.upd u hd⟩⟩
theorem RwsIR.snoc {w : World} {lo hi : Nat} {vs : List Value} {ll : List It} (h : RwsIR w lo hi vs ll) {x : It} {a : Option Addr} {c : Nat} (hx : ItV w lo hi x a c) : RwsIR w lo hi (vs ++ itCells x a c) (ll ++ [x]) := by
  have hl := h.1
  refine ⟨by simp [h.1, itCells]; omega, fun j hj => ?_⟩
  by_cases hlt : j < ll.length
  · obtain ⟨aj, cj, h1, h2, h3, h4⟩ := h.2 j hlt
    rw [getD_app_left _ hlt]
    exact ⟨aj, cj, by rw [List.getElem?_append_left (by omega)]; exact h1, by rw [List.getElem?_append_left (by omega)]; exact h2, by rw [List.getElem?_append_left (by omega)]; exact h3, h4⟩
  · have hjl : j = ll.length := by simp at hj; omega
    subst hjl
    have e : (ll ++ [x]).getD ll.length It.no = x := by rw [List.getD_eq_getElem?_getD, List.getElem?_append_right (Nat.le_refl _)]; simp
    rw [e]
    exact ⟨a, c, by rw [List.getElem?_append_right (by omega), show ll.length * 3 - vs.length = 0 by omega]; rfl, by rw [List.getElem?_append_right (by omega), show ll.length * 3 + 1 - vs.length = 1 by omega]; rfl, by rw [List.getElem?_append_right (by omega), show ll.length * 3 + 2 - vs.length = 2 by omega]; rfl, hx⟩
theorem items_of_vals {w : World} {base lo hi : Nat} {v : Value} {vs : List Value} {ll : List It} {n : Nat} (hown : w.ownsRow base 39 3 v n vs) (hr : RwsIR w lo hi vs ll) (hn : n ≤ 9223372036854775807) (hlo : lo ≤ base) (hh : w.heap.size ≤ hi) :
    n = ll.length ∧ ∃ a cap, v = .slice a ll.length cap ∧ Items w lo hi a ll ∧ Cap ll.length cap := by
  have hnl : n = ll.length := by have h1 := hown.1; have h2 := hr.1; omega
  subst hnl
  refine ⟨rfl, ?_⟩
  obtain ⟨a, cap, rfl, hc⟩ := owns_form hown
  refine ⟨a, cap, rfl, ⟨fun hne => ?_, hn⟩, hc⟩
  have h1 : 1 ≤ ll.length := List.length_pos_iff.2 hne
  rcases hown.2 with ⟨hv, h0⟩ | ⟨g, cap', cur, hv, hb, hg, _⟩
  · omega
  · simp only [Value.slice.injEq] at hv
    obtain ⟨rfl, _, rfl⟩ := hv
    refine ⟨g, 0, rfl, by omega, Nat.lt_of_lt_of_le (Array.getElem?_eq_some_iff.1 hg).1 hh, fun j hj => ?_⟩
    obtain ⟨aj, cj, k0, k1, k2, k3⟩ := hr.2 j hj
    have e0 := hown.cellAt (j * 3) (by omega)
    have e1 := hown.cellAt (j * 3 + 1) (by omega)
    have e2 := hown.cellAt (j * 3 + 2) (by omega)
    exact ⟨aj, cj, by rw [Nat.zero_add, e0, k0], by rw [Nat.zero_add, e1, k1], by rw [Nat.zero_add, e2, k2], k3⟩
/-- items that the caller reads -/
def ReadItems (w : World) (ll : List It) (e : Ending) (w' : World) : Prop :=
  ∃ a cap, e = .returned (.slice a ll.length cap) ∧ Items w' 0 w'.heap.size a ll ∧ Cap ll.length cap ∧ Below w.heap.size w w'
theorem Items.all {w : World} {lo hi : Nat} {a : Option Addr} {ll : List It} (h : Items w lo hi a ll) : Items w 0 w.heap.size a ll := by
  refine ⟨fun hne => ?_, h.len⟩
  obtain ⟨b, off, ha, _, _, h3⟩ := h.cells hne
  obtain ⟨aj, cj, h4, _⟩ := h3 0 (List.length_pos_iff.2 hne)
  refine ⟨b, off, ha, Nat.zero_le _, World.block_lt_of_cell? w _ h4, fun j hj => ?_⟩
  obtain ⟨aj, cj, h4, h5, h6, h7, h8⟩ := h3 j hj
  exact ⟨aj, cj, h4, h5, h6, h7.all, h8⟩
end Go.Proofs.Ytlammenejgagdaa
