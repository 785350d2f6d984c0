/-
  The exported functions on one vector or two: what the program returns.
-/
import Derived.Test.YtllahaebfhaobaaDistWalks
namespace Go.Proofs.Ytllahaebfhaobaa
open Go.RowKit
set_option linter.unusedVariables false

/-- a kind of distances -/
def kindB (kind : Int) : Bool := decide (1 ≤ kind ∧ kind ≤ 4)
theorem isKind_any (kind : Int) (w : World) : Calls Try.prog 63 #[.int .i64 kind] w fun e w' => e = .returned (.bool (kindB kind)) ∧ w = w' := by
  by_cases h1 : 1 ≤ kind
  · by_cases h2 : kind ≤ 4
    · go_enter Try.func63, Try.ntmps63
      go_wp2
      go_ret
      exact ⟨ret_bool (show true = kindB kind from (decide_eq_true (by omega)).symm), rfl⟩
    · go_enter Try.func63, Try.ntmps63
      go_wp2
      go_ret
      exact ⟨ret_bool (show false = kindB kind from (decide_eq_false (by omega)).symm), rfl⟩
  · go_enter Try.func63, Try.ntmps63
    go_wp2
    go_ret
    exact ⟨ret_bool (show false = kindB kind from (decide_eq_false (by omega)).symm), rfl⟩
set_option maxHeartbeats 400000 in
theorem implDistanceOf (w : World) (lo hi lo' hi' : Nat) (a b : Option Addr) (cap cap' : Nat) (l m : List Int) (kind : Int) (ha : Ints w lo hi a l) (hb : Ints w lo' hi' b m) (hk : 1 ≤ kind ∧ kind ≤ 4) (h1 : vecB l 4 = true) (h2 : vecB m 4 = true) :
    Calls Try.prog 31 #[.int .i64 kind, .slice a l.length cap, .slice b m.length cap'] w fun e w' => e = .returned (.int .i64 (dst kind l m l.length)) ∧ Drawn w w' := by
  have e1 := vecB_len h1
  have e2 := vecB_len h2
  have D := Lib.hid (implDistance w _ _ _ _ _ _ cap cap' l m kind ha hb (vecB_coords h1) (vecB_coords h2) (by omega) (by omega))
  have hk' : kindB kind = true := decide_eq_true hk
  clear e1 e2
  go_enter Try.func31, Try.ntmps31
  go_wp2_with fail
  refine (isKind_any _ _).mono ?_
  rintro e w' ⟨rfl, rfl⟩
  go_wp2_with fail
  refine (implIsVector _ _ _ _ _ _ 4 ha).mono ?_
  rintro e w' ⟨rfl, rfl⟩
  go_wp2_with fail
  refine (implIsVector _ _ _ _ _ _ 4 hb).mono ?_
  rintro e w' ⟨rfl, rfl⟩
  go_wp2_with fail
  refine D.out.mono ?_
  rintro e w' ⟨rfl, hd⟩
  have HD := Lib.hid hd
  clear hd
  go_wp2_with fail
  go_ret
  exact ⟨rfl, HD.out⟩
end Go.Proofs.Ytllahaebfhaobaa
