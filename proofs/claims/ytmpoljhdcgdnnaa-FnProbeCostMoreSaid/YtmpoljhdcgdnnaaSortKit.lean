/-
  What a sort by slices.SortFunc does to a row of the call's own, in the words of these texts.
-/
import Derived.Test.YtmpoljhdcgdnnaaGrewKit
import Derived.Test.YtmpoljhdcgdnnaaNearPlain
import Derived.Shelf.SlSortCmp.NoneTotal
import Derived.Shelf.Lay
namespace Go.Proofs.Ytmpoljhdcgdnnaa
open Go.RowKit Go.Sort Go.Shelf Go.Lib
set_option linter.unusedVariables false

/-- the sort touches its row's block, and lays new blocks -/
theorem upd_sort {α : Type} [Inhabited α] (enc : α → List Value) (k : Nat) (w : World) (blk off m : Nat) (d : Array α) (os : Array Obj) (hb : blk < w.heap.size) : Upd blk (blk + 1) w (sortWorldK enc k w blk off m d os) := by
  refine ⟨rfl, rfl, rfl, ?_, fun q hq hr => ?_⟩
  · simp [sortWorldK, Go.Sort.grow, putRowK, putRow, mapBlock, ahead]
  · have hne : blk ≠ q := by omega
    simp [sortWorldK, Go.Sort.grow, putRowK, putRow, mapBlock, ahead, Array.getElem?_append, hq, Array.getElem?_modify, hne]
    rw [Array.getElem_modify, if_neg hne]
/-- a slice of no hits at all, as slices.SortFunc takes it, or hits in a row of the call's own -/
theorem holdsK_of_owns {w : World} {base e k n cap g : Nat} {α : Type} [Inhabited α] (enc : α → List Value) (hk : ∀ x, (enc x).length = k) (d : Array α) (hn : d.size = n)
    (h : w.ownsRow base e k (.slice (some ⟨g, 0, none⟩) n cap) n (d.toList.flatMap enc)) : HoldsK enc k w g 0 d := by
  intro j hj
  rw [size_flatK] at hj
  have hl : (d.toList.flatMap enc).length = n * k := h.1
  have h5 := h.cellAt j (by rw [← hn]; exact hj)
  rw [Nat.zero_add]
  refine ⟨?_, h.frozenAt j⟩
  rw [h5, get_flatK _ _ _ _ hj]
  have k0 : 0 < k := by
    rcases Nat.eq_zero_or_pos k with h0 | h0
    · subst h0; simp at hj
    · exact h0
  have hq : j / k < d.size := (Nat.div_lt_iff_lt_mul k0).2 hj
  have key : ∀ (l : List α) (t : Nat), t < l.length * k → (l.flatMap enc)[t]? = some (enc (l.getD (t / k) default))[t % k]! := by
    intro l
    induction l with
    | nil => intro t ht; simp at ht
    | cons x l ih =>
      intro t ht
      rw [List.flatMap_cons]
      by_cases hlt : t < k
      · rw [List.getElem?_append_left (by rw [hk]; exact hlt), Nat.div_eq_of_lt hlt, Nat.mod_eq_of_lt hlt]
        show _ = some (enc x)[t]!
        rw [List.getElem?_eq_getElem (by rw [hk]; exact hlt), getElem!_pos (enc x) t (by rw [hk]; exact hlt)]
      · have ht' : t - k < l.length * k := by
          rw [List.length_cons, Nat.add_mul, Nat.one_mul] at ht
          omega
        rw [List.getElem?_append_right (by rw [hk]; omega), hk, ih _ ht']
        have e1 : t / k = (t - k) / k + 1 := by rw [← Nat.sub_add_cancel (show k ≤ t by omega), Nat.add_div_right _ k0, Nat.add_sub_cancel]
        have e2 : t % k = (t - k) % k := by rw [Nat.mod_eq_sub_mod (by omega)]
        rw [e1, e2]
        rfl
  rw [key d.toList j (by rw [Array.length_toList]; exact hj)]
  have e3 : d.toList.getD (j / k) default = d[j / k]! := by
    rw [List.getD_eq_getElem?_getD, List.getElem?_eq_getElem (by rw [Array.length_toList]; exact hq), getElem!_pos d _ hq]
    simp
  rw [e3]
  rfl
end Go.Proofs.Ytmpoljhdcgdnnaa
