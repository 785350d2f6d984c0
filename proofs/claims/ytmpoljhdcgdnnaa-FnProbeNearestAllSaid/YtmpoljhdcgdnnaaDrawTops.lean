/-
  What the Draw functions of vectors, centres and planes hand over, whatever the code.
-/
import Derived.Test.YtmpoljhdcgdnnaaDrawVec
namespace Go.Proofs.Ytmpoljhdcgdnnaa
open Go.RowKit
set_option linter.unusedVariables false

def DrawnLists (w : World) (e : Ending) (w' : World) : Prop :=
  ∃ (a : Option Addr) (cap : Nat) (ll : List (List Int)), e = .returned (.slice a ll.length cap) ∧ (Lists w' 0 w'.heap.size a ll ∧ Cap ll.length cap) ∧ ll.length ≤ 10 ∧ Below w.heap.size w w'
def DrawnListsInts (w : World) (e : Ending) (w' : World) : Prop :=
  ∃ (a b : Option Addr) (cap cap' : Nat) (ll : List (List Int)) (l : List Int), e = .returned (.tuple #[.slice a ll.length cap, .slice b l.length cap']) ∧ (Lists w' 0 w'.heap.size a ll ∧ Cap ll.length cap) ∧ (Ints w' 0 w'.heap.size b l ∧ Cap l.length cap') ∧
    (ll.length ≤ 10 ∧ 1 ≤ l.length ∧ l.length ≤ 5) ∧ Below w.heap.size w w'

set_option maxHeartbeats 400000 in
theorem DrawCentreOf_any (w : World) (a : Option Addr) (n cap : Nat) (f : Nat → Int) (h : Bytes w a n cap f) :
    Calls Try.prog 68 #[.slice a n cap] w (DrawnListsInts w) := by
  have H := Lib.hid h
  clear h
  go_enter Try.func68, Try.ntmps68
  go_wp2_with fail
  refine (newReader_any _ _ _ _ f H.out).mono ?_
  rintro e w1 ⟨rfl, hr, hb, hs⟩
  have HB := Lib.hid hb
  have hbs := hb.size
  clear hs hb
  go_wp2_with fail
  refine (anyCentres_any _ _ _ hr (by omega)).mono ?_
  rintro e w2 ⟨a2, cap2, ll, rfl, hl, hq, hr2, hu⟩
  have HL := Lib.hid hl
  have HU := Lib.hid hu
  have HQ := Lib.hid hq
  have hs2 := hu.size
  clear hl hu hq
  go_wp2_with fail
  refine (anyVector_any _ _ _ hr2 (by omega)).mono ?_
  rintro e w3 ⟨a3, cap3, l, rfl, hi, hq, hr3, hu3⟩
  have HI := Lib.hid hi
  have HU3 := Lib.hid hu3
  have HQ3 := Lib.hid hq
  have hs3 := hu3.size
  have HR := Lib.hid hr.lt
  clear hi hu3 hq
  go_wp2_with fail
  go_ret2
  exact ⟨a2, a3, cap2, cap3, ll, l, rfl, ⟨(HL.out.1.upd HU3.out (by have := HR.out; omega)).wide (Nat.zero_le _) hs3, HL.out.2⟩, ⟨HI.out.1.wide (Nat.zero_le _) (Nat.le_refl _), HI.out.2.2⟩, ⟨HQ.out, HQ3.out⟩, HB.out.trans ((HU.out.trans HU3.out).low (Nat.le_refl _) hbs)⟩
end Go.Proofs.Ytmpoljhdcgdnnaa
