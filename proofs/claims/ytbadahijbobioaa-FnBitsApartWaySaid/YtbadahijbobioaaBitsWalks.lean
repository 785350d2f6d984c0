/-
  The walks of BitsApart: the program's, the reference's, and the drawn numbers' bounds.
-/
import Derived.Test.YtbadahijbobioaaRows
import Derived.Test.YtbadahijbobioaaBitsPlain
import Derived.Test.YtbadahijbobioaaBase
namespace Go.Proofs.Ytbadahijbobioaa
open Go.RowKit
set_option linter.unusedVariables false

theorem inRange_any (a b c : Int) (w : World) :
    Calls Try.prog 9 #[.int .i64 a, .int .i64 b, .int .i64 c] w fun e w' => e = .returned (.bool (inR a b c)) ∧ w = w' := by
  by_cases h1 : b ≤ a
  · by_cases h2 : a ≤ c
    · go_enter Try.func9, Try.ntmps9
      go_wp2
      go_ret
      exact ⟨ret_bool (inR_true ⟨h1, h2⟩).symm, rfl⟩
    · go_enter Try.func9, Try.ntmps9
      go_wp2
      go_ret
      exact ⟨ret_bool (inR_false (by omega)).symm, rfl⟩
  · go_enter Try.func9, Try.ntmps9
    go_wp2
    go_ret
    exact ⟨ret_bool (inR_false (by omega)).symm, rfl⟩

set_option maxHeartbeats 400000 in
theorem ones64 (a : Int) (w : World) (h0 : 0 ≤ a) (h1 : a ≤ 63) :
    Calls Try.prog 15 #[.int .u64 a] w fun e w' => e = .returned (.int .i64 (pop a)) ∧ w = w' := by
  rw [← oc_eq a h0 h1]
  go_enter Try.func15, Try.ntmps15
  go_wp2
  go_ret
  exact ⟨rfl, rfl⟩

theorem ones (a : Int) (w : World) (h0 : 0 ≤ a) (h1 : a ≤ 63) :
    Calls Try.prog 11 #[.int .u64 a] w fun e w' => e = .returned (.int .i64 (pop a)) ∧ w = w' := by
  go_enter Try.func11, Try.ntmps11
  go_wp2_with (go_at_call 15; refine (ones64 _ _ h0 h1).mono ?_; rintro e w' ⟨rfl, rfl⟩)
  go_ret
  exact ⟨rfl, rfl⟩

theorem u64_small (x : Int) (h0 : 0 ≤ x) (h1 : x ≤ 63) : IntKind.u64.wrap x = x := by
  simp [IntKind.wrap, IntKind.bits, IntKind.signed]; omega

set_option maxHeartbeats 400000 in
theorem implBitsApart (a b : Int) (w : World) :
    Calls Try.prog 7 #[.int .i64 a, .int .i64 b] w fun e w' => e = .returned (.int .i64 (apart a b)) ∧ w = w' := by
  by_cases a0 : 0 ≤ a
  · by_cases a1 : a ≤ 63
    · by_cases b0 : 0 ≤ b
      · by_cases b1 : b ≤ 63
        · have hx := xo_bd a b a0 a1 b0 b1
          have hw : IntKind.u64.wrap (bits BinOp.xor IntKind.i64 a b) = xo a b := u64_small _ hx.1 hx.2
          go_enter Try.func7, Try.ntmps7
          go_wp2_with (go_at_call 11; refine (ones (xo a b) _ hx.1 hx.2).mono ?_; rintro e w' ⟨rfl, rfl⟩)
          go_ret
          exact ⟨ret_int (apart_in (by omega)).symm, rfl⟩
        · go_enter Try.func7, Try.ntmps7
          go_wp2
          go_ret
          exact ⟨ret_int (apart_out (by omega)).symm, rfl⟩
      · go_enter Try.func7, Try.ntmps7
        go_wp2
        go_ret
        exact ⟨ret_int (apart_out (by omega)).symm, rfl⟩
    · go_enter Try.func7, Try.ntmps7
      go_wp2
      go_ret
      exact ⟨ret_int (apart_out (by omega)).symm, rfl⟩
  · go_enter Try.func7, Try.ntmps7
    go_wp2
    go_ret
    exact ⟨ret_int (apart_out (by omega)).symm, rfl⟩

set_option maxHeartbeats 400000 in
theorem bitsApart_in (a b : Int) (w : World) (a0 : 0 ≤ a) (a1 : a ≤ 63) (b0 : 0 ≤ b) (b1 : b ≤ 63) :
    Calls Try.prog 10 #[.int .i64 a, .int .i64 b] w fun e w' => e = .returned (.int .i64 (pop (xo a b))) ∧ w = w' := by
  have hx := xo_bd a b a0 a1 b0 b1
  go_enter Try.func10, Try.ntmps10
  go_wp2
  go_loop [5, 6] (fun n x => ∃ m y : Int, n = .int .i64 m ∧ x = .int .i64 y ∧ 0 ≤ y ∧ y ≤ 63 ∧ 0 ≤ m ∧ m ≤ 6 ∧ Hid (m + pop y = pop (xo a b))) (fun _ x => (intOf x).toNat)
  case atStart => exact ⟨0, xo a b, rfl, rfl, hx.1, hx.2, by omega, by omega, by show _ = _; omega⟩
  case round =>
    obtain ⟨m, y, rfl, rfl, y0, y1, m0, m1, hs⟩ := hrel
    have p1 := pop_half y y0 y1
    have p2 := pop_bd (y / 2) (by omega)
    have p3 := (pop_bd (xo a b) hx.1).2
    have hs' := hs.out
    have q1 : 0 ≤ y / 2 := by omega
    have q2 : y / 2 ≤ 63 := by omega
    have q3 : 0 ≤ m + y % 2 := by omega
    have q4 : m + y % 2 ≤ 6 := by omega
    have q5 : Hid (m + y % 2 + pop (y / 2) = pop (xo a b)) := by show _ = _; omega
    have q6 : Hid (y = 0 → m = pop (xo a b)) := by show _ → _; rintro rfl; simpa [pop_zero] using hs'
    clear p1 p2 p3 hs'
    go_wp2
    · go_round
      case rel => exact ⟨_, _, rfl, rfl, q1, q2, q3, q4, q5⟩
      case measure => simp [intOf]; omega
    · go_ret
      exact ⟨ret_int (q6.out (by omega)), rfl⟩

set_option maxHeartbeats 400000 in
theorem specBitsApart (a b : Int) (w : World) :
    Calls Try.prog 6 #[.int .i64 a, .int .i64 b] w fun e w' => e = .returned (.int .i64 (apart a b)) ∧ w = w' := by
  by_cases ha : 0 ≤ a ∧ a ≤ 63
  · by_cases hb : 0 ≤ b ∧ b ≤ 63
    · have ha' : inR a 0 63 = true := inR_true ha
      have hb' : inR b 0 63 = true := inR_true hb
      go_enter Try.func6, Try.ntmps6
      go_wp2_with (first | (go_at_call 9; refine (inRange_any _ _ _ _).mono ?_; rintro e w' ⟨rfl, rfl⟩) | (go_at_call 10; refine (bitsApart_in a b _ ha.1 ha.2 hb.1 hb.2).mono ?_; rintro e w' ⟨rfl, rfl⟩))
      go_ret
      exact ⟨ret_int (apart_in (by omega)).symm, rfl⟩
    · have ha' : inR a 0 63 = true := inR_true ha
      have hb' : inR b 0 63 = false := inR_false hb
      go_enter Try.func6, Try.ntmps6
      go_wp2_with (go_at_call 9; refine (inRange_any _ _ _ _).mono ?_; rintro e w' ⟨rfl, rfl⟩)
      go_ret
      exact ⟨ret_int (apart_out (by omega)).symm, rfl⟩
  · have ha' : inR a 0 63 = false := inR_false ha
    go_enter Try.func6, Try.ntmps6
    go_wp2_with (go_at_call 9; refine (inRange_any _ _ _ _).mono ?_; rintro e w' ⟨rfl, rfl⟩)
    go_ret
    exact ⟨ret_int (apart_out (by omega)).symm, rfl⟩

end Go.Proofs.Ytbadahijbobioaa
