/-
  What the Draw functions of books hand over, whatever the code.
-/
import Derived.Test.YtllahaebfhaobaaDrawBook
import Derived.Test.YtllahaebfhaobaaDistWalks
namespace Go.Proofs.Ytllahaebfhaobaa
open Go.RowKit
set_option linter.unusedVariables false

theorem bytes_below {w w' : World} {a : Option Addr} {n cap : Nat} {f : Nat → Int} (h : Bytes w a n cap f) (u : Below w.heap.size w w') : Bytes w' a n cap f :=
  ⟨h.1, h.2.1, h.2.2.1, fun hn => by
    obtain ⟨b, off, ha, hc⟩ := h.2.2.2 hn
    exact ⟨b, off, ha, fun j hj => ⟨cell_later u (hc j hj).1, (hc j hj).2⟩⟩⟩
/-- what a Draw function hands over that draws a book -/
def DrawnBook (w : World) (e : Ending) (w' : World) : Prop :=
  ∃ (a b : Option Addr) (cap cap' : Nat) (L R : List (List Int)), e = .returned (.agg #[.slice a L.length cap, .slice b R.length cap']) ∧ (Sides w' 0 w'.heap.size a b L R ∧ Cap L.length cap ∧ Cap R.length cap') ∧ Below w.heap.size w w'
/-- what a Draw function hands over that draws a book and a number -/
def DrawnBookInt (w : World) (e : Ending) (w' : World) : Prop :=
  ∃ (a b : Option Addr) (cap cap' : Nat) (L R : List (List Int)) (c : Int), e = .returned (.tuple #[.agg #[.slice a L.length cap, .slice b R.length cap'], .int .i64 c]) ∧ (Sides w' 0 w'.heap.size a b L R ∧ Cap L.length cap ∧ Cap R.length cap') ∧ (-1 ≤ c ∧ c ≤ 16) ∧ Below w.heap.size w w'
/-- what a Draw function hands over that draws a book and a vector -/
def DrawnBookInts (w : World) (e : Ending) (w' : World) : Prop :=
  ∃ (a b : Option Addr) (cap cap' : Nat) (L R : List (List Int)) (v : Option Addr) (cv : Nat) (l : List Int), e = .returned (.tuple #[.agg #[.slice a L.length cap, .slice b R.length cap'], .slice v l.length cv]) ∧ (Sides w' w.heap.size w'.heap.size a b L R ∧ Cap L.length cap ∧ Cap R.length cap') ∧ (Ints w' w.heap.size w'.heap.size v l ∧ Cap l.length cv) ∧ (1 ≤ l.length ∧ l.length ≤ 5) ∧ Below w.heap.size w w'
end Go.Proofs.Ytllahaebfhaobaa
