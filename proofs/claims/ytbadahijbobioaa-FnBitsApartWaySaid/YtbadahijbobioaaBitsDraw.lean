/-
  The two numbers that DrawBitsApart draws: whatever the code, two ints, and nothing old has turned.
-/
import Derived.Test.YtbadahijbobioaaReader
namespace Go.Proofs.Ytbadahijbobioaa
open Go.RowKit
set_option linter.unusedVariables false

def DrawBitsPost (w : World) (e : Ending) (w' : World) : Prop :=
  ∃ a b : Int, e = .returned (.tuple #[.int .i64 a, .int .i64 b]) ∧ -1 ≤ a ∧ a ≤ 64 ∧ -1 ≤ b ∧ b ≤ 64 ∧ Below w.heap.size w w'

set_option maxHeartbeats 400000 in
theorem drawBitsApart_any (w : World) (a : Option Addr) (n cap : Nat) (f : Nat → Int) (h : Bytes w a n cap f) :
    Calls Try.prog 8 #[.slice a n cap] w (DrawBitsPost w) := by
  have H := Lib.hid h
  clear h
  go_enter Try.func8, Try.ntmps8
  go_wp2_with fail
  refine (newReader_any _ _ _ _ f H.out).mono ?_
  rintro e w1 ⟨rfl, hr, hb, hs⟩
  go_wp2_with fail
  refine (pick_any _ _ _ _ hr (by omega) (by omega) (by omega)).mono ?_
  rintro e w2 ⟨m1, rfl, p1, p2, hr2, hu, hs2⟩
  go_wp2_with fail
  refine (pick_any _ _ _ _ hr2 (by omega) (by omega) (by omega)).mono ?_
  rintro e w3 ⟨m2, rfl, q1, q2, hr3, hu3, hs3⟩
  go_wp2_with fail
  go_ret2
  exact ⟨m1 - 1, m2 - 1, rfl, by omega, by omega, by omega, by omega, hb.trans ((hu.trans hu3).low (Nat.le_refl _) hb.size)⟩
end Go.Proofs.Ytbadahijbobioaa
