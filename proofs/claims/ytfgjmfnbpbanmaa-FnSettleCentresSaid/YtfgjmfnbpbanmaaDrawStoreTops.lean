/-
  What the Draw functions of centres and stores hand over, whatever the code.
-/
import Derived.Test.YtfgjmfnbpbanmaaDrawStore
namespace Go.Proofs.Ytfgjmfnbpbanmaa
open Go.RowKit
set_option linter.unusedVariables false

def DrawnCS (w : World) (e : Ending) (w' : World) : Prop :=
  ∃ (a b : Option Addr) (cap cap' : Nat) (cs : List (List Int)) (ll : List It), e = .returned (.tuple #[.slice a cs.length cap, .slice b ll.length cap']) ∧ (Lists w' 0 w'.heap.size a cs ∧ Cap cs.length cap) ∧ (Items w' 0 w'.heap.size b ll ∧ Cap ll.length cap') ∧ (cs.length ≤ 10 ∧ ll.length ≤ 17) ∧ Below w.heap.size w w'

set_option maxHeartbeats 400000 in
theorem DrawAssignItems_any (w : World) (a : Option Addr) (n cap : Nat) (f : Nat → Int) (h : Bytes w a n cap f) :
    Calls Try.prog 44 #[.slice a n cap] w (DrawnCS w) := by
  have H := Lib.hid h
  clear h
  go_enter Try.func44, Try.ntmps44
  go_wp2_with fail
  refine (newReader_any _ _ _ _ f H.out).mono ?_
  rintro e w1 ⟨rfl, hr, hb, hs⟩
  have HB := Lib.hid hb
  have hbs := hb.size
  clear hs hb
  go_wp2_with fail
  refine (anyCentres_any _ _ _ hr (by omega)).mono ?_
  rintro e w2 ⟨a2, cap2, cs, rfl, hl, hq, hr2, hu⟩
  have HL := Lib.hid hl
  have HU := Lib.hid hu
  have HQ := Lib.hid (show cs.length ≤ 10 from hq)
  have hs2 := hu.size
  clear hl hu hq
  go_wp2_with fail
  refine (anyStore_any _ _ _ hr2 (by omega)).mono ?_
  rintro e w3 ⟨a3, cap3, ll, rfl, ho, hq, hr3, hu3⟩
  obtain ⟨a', c', hv, hi, hc⟩ := items_of_owns ho (by omega) (Nat.le_refl _)
  simp only [Value.slice.injEq] at hv
  obtain ⟨rfl, _, rfl⟩ := hv
  have HI := Lib.hid hi
  have HC := Lib.hid hc
  have HU3 := Lib.hid hu3
  have hs3 := hu3.size
  have HR := Lib.hid hr.lt
  clear hi hu3 ho hc
  go_wp2_with fail
  go_ret2
  exact ⟨a2, a3, cap2, cap3, cs, ll, rfl, ⟨(HL.out.1.upd HU3.out (by have := HR.out; omega)).wide (Nat.zero_le _) hs3, HL.out.2⟩, ⟨HI.out.wide (Nat.zero_le _) (Nat.le_refl _), HC.out⟩, ⟨HQ.out, hq⟩, HB.out.trans ((HU.out.trans HU3.out).low (Nat.le_refl _) hbs)⟩
set_option maxHeartbeats 400000 in
theorem DrawMoveCentres_any (w : World) (a : Option Addr) (n cap : Nat) (f : Nat → Int) (h : Bytes w a n cap f) :
    Calls Try.prog 20 #[.slice a n cap] w (DrawnCS w) := by
  have H := Lib.hid h
  clear h
  go_enter Try.func20, Try.ntmps20
  go_wp2_with fail
  refine (DrawAssignItems_any _ _ _ _ f H.out).mono ?_
  rintro e w1 ⟨a2, a3, cap2, cap3, cs, ll, rfl, h1, h2, h3, h4⟩
  have HH := Lib.hid (And.intro h1 (And.intro h2 (And.intro h3 h4)))
  clear h1 h2 h3 h4
  go_wp2_with fail
  go_ret2
  exact ⟨a2, a3, cap2, cap3, cs, ll, rfl, HH.out⟩
set_option maxHeartbeats 400000 in
theorem DrawSettleCentres_any (w : World) (a : Option Addr) (n cap : Nat) (f : Nat → Int) (h : Bytes w a n cap f) :
    Calls Try.prog 29 #[.slice a n cap] w (DrawnCS w) := by
  have H := Lib.hid h
  clear h
  go_enter Try.func29, Try.ntmps29
  go_wp2_with fail
  refine (DrawAssignItems_any _ _ _ _ f H.out).mono ?_
  rintro e w1 ⟨a2, a3, cap2, cap3, cs, ll, rfl, h1, h2, h3, h4⟩
  have HH := Lib.hid (And.intro h1 (And.intro h2 (And.intro h3 h4)))
  clear h1 h2 h3 h4
  go_wp2_with fail
  go_ret2
  exact ⟨a2, a3, cap2, cap3, cs, ll, rfl, HH.out⟩
end Go.Proofs.Ytfgjmfnbpbanmaa
