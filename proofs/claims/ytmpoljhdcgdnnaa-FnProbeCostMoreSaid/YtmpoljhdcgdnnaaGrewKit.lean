/-
  Worlds that differ by draws and by new blocks behind.
-/
import Derived.Test.YtmpoljhdcgdnnaaHits
import Derived.Sort.Grow
namespace Go.Proofs.Ytmpoljhdcgdnnaa
open Go.RowKit Go.Sort
set_option linter.unusedVariables false

/-- w' is w but for draws and new blocks behind -/
def Grew (w w' : World) : Prop := ∃ q os, w' = Go.Sort.grow (w.drewN q) os
theorem Grew.refl (w : World) : Grew w w := ⟨0, #[], by rw [grow_empty]; rfl⟩
theorem Grew.trans {a b c : World} (h : Grew a b) (k : Grew b c) : Grew a c := by
  obtain ⟨q, os, rfl⟩ := h
  obtain ⟨q', os', rfl⟩ := k
  exact ⟨q + q', os ++ os', by rw [show (Go.Sort.grow (a.drewN q) os).drewN q' = Go.Sort.grow ((a.drewN q).drewN q') os from rfl, grow_grow, World.drewN_drewN]⟩
theorem Grew.drawn {w w' : World} (h : Drawn w w') : Grew w w' := by
  obtain ⟨n, rfl⟩ := h
  exact ⟨n, #[], by rw [grow_empty]⟩
theorem Grew.alloc (w : World) (o : Obj) : Grew w (w.alloc o) := ⟨0, #[o], by exact alloc_eq_grow w o⟩
theorem Grew.below {w w' : World} (h : Grew w w') : Below w.heap.size w w' := by
  obtain ⟨q, os, rfl⟩ := h
  exact ⟨rfl, rfl, rfl, by simp [Go.Sort.grow, World.drewN], fun k hk => by simp [Go.Sort.grow, World.drewN, Array.getElem?_append, hk]⟩
theorem drawn_drew (w : World) : Drawn w w.drew := ⟨1, rfl⟩
end Go.Proofs.Ytmpoljhdcgdnnaa
