/-
  The walks of isVector (the program's and the reference's) and what they call.
-/
import Derived.Test.YtlammenejgagdaaInts
import Derived.Test.YtlammenejgagdaaVecPlain
namespace Go.Proofs.Ytlammenejgagdaa
open Go.RowKit
set_option linter.unusedVariables false

set_option maxHeartbeats 400000 in
theorem implIsVector (w : World) (lo hi : Nat) (a : Option Addr) (cap : Nat) (l : List Int) (n : Int) (h : Ints w lo hi a l) :
    Calls Try.prog 61 #[.slice a l.length cap, .int .i64 n] w fun e w' => e = .returned (.bool (vecB l n)) ∧ w = w' := by
  have hl := h.len
  go_enter Try.func61, Try.ntmps61
  go_wp2
  go_loop [9] (fun i => ∃ k : Nat, k ≤ l.length ∧ i = .int .i64 (k : Int) ∧ Hid (coordsB (l.take k) = true)) (fun i => l.length - (intOf i).toNat)
  case atStart => exact ⟨0, Nat.zero_le _, rfl, by show _ = _; simp [coordsB]⟩
  case round =>
    obtain ⟨k, hk, rfl, hs⟩ := hrel
    by_cases hlt : k < l.length
    · obtain ⟨b, off, rfl, _, _, hc, h1, h2⟩ := h.at_ hlt
      have hn := Lib.hid (vecB_no l n k hlt)
      have hy : Hid ((-100 ≤ l.getD k 0 ∧ l.getD k 0 ≤ 100) → coordsB (l.take (k + 1)) = true) := by
        show _ → _
        intro hb
        rw [coordsB_take_succ l k hlt, hs.out, decide_eq_true hb]
        rfl
      obtain ⟨x, hx⟩ : ∃ x, l.getD k 0 = x := ⟨_, rfl⟩
      rw [hx] at hc h1 h2 hn hy
      clear hx
      go_wp2
      · go_ret
        exact ⟨ret_bool (hn.out (by omega)).symm, rfl⟩
      · go_round
        case rel => exact ⟨k + 1, by omega, by go_num, hy.out (by omega)⟩
        case measure => simp [intOf]; omega
      · go_ret
        exact ⟨ret_bool (hn.out (by omega)).symm, rfl⟩
    · have hk' : k = l.length := by omega
      have he : Hid (vecB l n = ((l.length : Int) == n)) := vecB_end l n (by rw [← hk']; exact hs.out)
      clear hk'
      go_wp2
      go_ret
      exact ⟨ret_bool he.out.symm, rfl⟩

theorem inRange_any (a b c : Int) (w : World) :
    Calls Try.prog 38 #[.int .i64 a, .int .i64 b, .int .i64 c] w fun e w' => e = .returned (.bool (inR a b c)) ∧ w = w' := by
  by_cases h1 : b ≤ a
  · by_cases h2 : a ≤ c
    · go_enter Try.func38, Try.ntmps38
      go_wp2
      go_ret
      exact ⟨ret_bool (inR_true ⟨h1, h2⟩).symm, rfl⟩
    · go_enter Try.func38, Try.ntmps38
      go_wp2
      go_ret
      exact ⟨ret_bool (inR_false (by omega)).symm, rfl⟩
  · go_enter Try.func38, Try.ntmps38
    go_wp2
    go_ret
    exact ⟨ret_bool (inR_false (by omega)).symm, rfl⟩

set_option maxHeartbeats 400000 in
theorem allIn_any (w : World) (lo hi : Nat) (a : Option Addr) (cap : Nat) (l : List Int) (h : Ints w lo hi a l) :
    Calls Try.prog 80 #[.slice a l.length cap, .int .i64 (-100), .int .i64 100] w fun e w' => e = .returned (.bool (coordsB l)) ∧ w = w' := by
  have hl := h.len
  go_enter Try.func80, Try.ntmps80
  go_wp2
  go_loop [7] (fun i => ∃ k : Nat, k ≤ l.length ∧ i = .int .i64 (k : Int) ∧ Hid (coordsB (l.take k) = true)) (fun i => l.length - (intOf i).toNat)
  case atStart => exact ⟨0, Nat.zero_le _, rfl, by show _ = _; simp [coordsB]⟩
  case round =>
    obtain ⟨k, hk, rfl, hs⟩ := hrel
    by_cases hlt : k < l.length
    · obtain ⟨b, off, rfl, _, _, hc, h1, h2⟩ := h.at_ hlt
      have hn := Lib.hid (coordsB_no l k hlt)
      have hy : Hid ((-100 ≤ l.getD k 0 ∧ l.getD k 0 ≤ 100) → coordsB (l.take (k + 1)) = true) := by
        show _ → _
        intro hb
        rw [coordsB_take_succ l k hlt, hs.out, decide_eq_true hb]
        rfl
      obtain ⟨x, hx⟩ : ∃ x, l.getD k 0 = x := ⟨_, rfl⟩
      rw [hx] at hc h1 h2 hn hy
      clear hx
      by_cases hb : -100 ≤ x ∧ x ≤ 100
      · have hr : inR x (-100) 100 = true := inR_true hb
        go_wp2_with (go_at_call 38; refine (inRange_any _ _ _ _).mono ?_; rintro e w' ⟨rfl, rfl⟩)
        go_round
        case rel => exact ⟨k + 1, by omega, by go_num, hy.out (by omega)⟩
        case measure => simp [intOf]; omega
      · have hr : inR x (-100) 100 = false := inR_false hb
        go_wp2_with (go_at_call 38; refine (inRange_any _ _ _ _).mono ?_; rintro e w' ⟨rfl, rfl⟩)
        go_ret
        exact ⟨ret_bool (hn.out hb).symm, rfl⟩
    · have hk' : k = l.length := by omega
      have he : Hid (coordsB l = true) := by
        have := hs.out
        rw [hk', List.take_length] at this
        exact this
      clear hk'
      go_wp2
      go_ret
      exact ⟨ret_bool he.out.symm, rfl⟩

set_option maxHeartbeats 400000 in
theorem specIsVector (w : World) (lo hi : Nat) (a : Option Addr) (cap : Nat) (l : List Int) (h : Ints w lo hi a l) :
    Calls Try.prog 62 #[.slice a l.length cap] w fun e w' => e = .returned (.bool (vecB l 4)) ∧ w = w' := by
  have hl := h.len
  have hu : Hid (vecB l 4 = (coordsB l && ((l.length : Int) == 4))) := by show _ = _; rfl
  by_cases h4 : ((l.length : Int) == 4) = true
  · go_enter Try.func62, Try.ntmps62
    go_wp2_with (go_at_call 80; refine (allIn_any _ _ _ _ _ _ h).mono ?_; rintro e w' ⟨rfl, rfl⟩)
    go_ret
    exact ⟨ret_bool (by rw [hu.out, h4, Bool.and_true]), rfl⟩
  · have h4' : ((l.length : Int) == 4) = false := by simpa using h4
    clear h4
    go_enter Try.func62, Try.ntmps62
    go_wp2
    go_ret
    exact ⟨ret_bool (by rw [hu.out, h4', Bool.and_false]), rfl⟩
end Go.Proofs.Ytlammenejgagdaa
