/-
  What a law's argument of the type Book looks like in memory.
-/
import Derived.Test.YtllahaebfhaobaaArgs
import Derived.Test.YtllahaebfhaobaaBookWalks
import Derived.Lib.SmallJoins
namespace Go.Proofs.Ytllahaebfhaobaa
open Go.ChangeShapes Go.WideShapes Go.ChangeAt Go.RowKit Go.Joins
set_option linter.unusedVariables false

theorem cellsBook : Try.prog.cellsOf 39 = 2 := by kernel_rfl
set_option maxRecDepth 100000 in
theorem book_of_trod {H : Type} {enc : TypeId × Value → H} {W : World} {held : Bool} {r : Reach} {b0 : Nat} {v : Value} {d : DataW H} {p : List MemPlace}
    (hv : Value.okWide Try.prog W r b0 39 v) (h : DataW.Trod enc Try.prog W 0 (fun _ => true) held 39 v d p) :
    ∃ a b cap cap' L R, v = .agg #[.slice a (L : List (List Int)).length cap, .slice b (R : List (List Int)).length cap'] ∧ (Sides W 0 W.heap.size a b L R ∧ Cap L.length cap ∧ Cap R.length cap') := by
  obtain ⟨c0, c1, y0, y1, m, rfl, rfl, rfl, hy0, hy1⟩ := open_agg2 Try.underlying39 (by kernel_rfl) cellsBook hv h
  obtain ⟨a, l, c, hc0⟩ := slice_form Try.underlying23 hy0
  obtain ⟨b, l', c', hc1⟩ := slice_form Try.underlying23 hy1
  simp only [List.cons.injEq, and_true] at hc0 hc1
  subst hc0 hc1
  obtain ⟨L, hL, h1, h2⟩ := lists_of_trod (show DataW.trod enc Try.prog W 0 (fun _ => true) held m 23 (Value.slice a l c).cells.toList = some y0 from hy0)
  obtain ⟨R, hR, h3, h4⟩ := lists_of_trod (show DataW.trod enc Try.prog W 0 (fun _ => true) held m 23 (Value.slice b l' c').cells.toList = some y1 from hy1)
  subst hL hR
  exact ⟨a, b, c, c', L, R, rfl, ⟨h1, h3⟩, h2, h4⟩
end Go.Proofs.Ytllahaebfhaobaa
