/-
  The exported functions on vectors, centres and planes: what the program returns, what the reference returns.
-/
import Derived.Test.YtmpoljhdcgdnnaaListWalks
import Derived.Test.YtmpoljhdcgdnnaaCentreWalks
import Derived.Test.YtmpoljhdcgdnnaaHashWalks
import Derived.Test.YtmpoljhdcgdnnaaOneTops
namespace Go.Proofs.Ytmpoljhdcgdnnaa
open Go.RowKit
set_option linter.unusedVariables false

theorem implValidCentres (w : World) (lo hi : Nat) (a : Option Addr) (cap : Nat) (ll : List (List Int)) (h : Lists w lo hi a ll) :
    Calls Try.prog 16 #[.slice a ll.length cap] w fun e w' => e = .returned (.bool (cenB ll 4)) ∧ w = w' := by
  go_enter Try.func16, Try.ntmps16
  go_wp2_with (go_at_call 49; refine (areVectors_any _ _ _ _ _ _ 4 h).mono ?_; rintro e w' ⟨rfl, rfl⟩)
  go_ret
  exact ⟨rfl, rfl⟩


/-- what CentreOf returns -/
def centreV (ll : List (List Int)) (m : List Int) : Int := if cenB ll 4 && vecB m 4 then (near ll m : Int) else -1
theorem centreV_yes {ll : List (List Int)} {m : List Int} (h1 : cenB ll 4 = true) (h2 : vecB m 4 = true) : centreV ll m = (near ll m : Int) := by
  unfold centreV; rw [h1, h2]; rfl
theorem centreV_no1 {ll : List (List Int)} {m : List Int} (h1 : cenB ll 4 = false) : centreV ll m = -1 := by
  unfold centreV; rw [h1]; rfl
theorem centreV_no2 {ll : List (List Int)} {m : List Int} (h2 : vecB m 4 = false) : centreV ll m = -1 := by
  unfold centreV; rw [h2, Bool.and_false]; rfl
/-- what HashOf returns -/
def hashV (ll : List (List Int)) (m : List Int) : Int := if cenB ll 6 && vecB m 4 then hash ll m ll.length else -1
theorem hashV_yes {ll : List (List Int)} {m : List Int} (h1 : cenB ll 6 = true) (h2 : vecB m 4 = true) : hashV ll m = hash ll m ll.length := by
  unfold hashV; rw [h1, h2]; rfl
theorem hashV_no1 {ll : List (List Int)} {m : List Int} (h1 : cenB ll 6 = false) : hashV ll m = -1 := by
  unfold hashV; rw [h1]; rfl
theorem hashV_no2 {ll : List (List Int)} {m : List Int} (h2 : vecB m 4 = false) : hashV ll m = -1 := by
  unfold hashV; rw [h2, Bool.and_false]; rfl

set_option maxHeartbeats 400000 in
theorem implCentreOfIn (w : World) (lo hi lo' hi' : Nat) (a b : Option Addr) (cap cap' : Nat) (ll : List (List Int)) (m : List Int) (ha : Lists w lo hi a ll) (hb : Ints w lo' hi' b m)
    (hr : RowsOk ll m) (hm : coordsB m = true) (h1 : 1 ≤ ll.length) :
    Calls Try.prog 71 #[.slice a ll.length cap, .slice b m.length cap'] w fun e w' => e = .returned (.int .i64 (near ll m : Int)) ∧ Drawn w w' := by
  have D := Lib.hid (closestOf_any w _ _ _ _ _ _ cap cap' ll m ha hb hr hm h1)
  clear hr hm
  go_enter Try.func71, Try.ntmps71
  go_wp2_with fail
  refine D.out.mono ?_
  rintro e w' ⟨rfl, hd⟩
  have HD := Lib.hid hd
  clear hd
  go_wp2_with fail
  go_ret
  exact ⟨rfl, HD.out⟩

set_option maxHeartbeats 400000 in
theorem implCentreOf (w : World) (lo hi lo' hi' : Nat) (a b : Option Addr) (cap cap' : Nat) (ll : List (List Int)) (m : List Int) (ha : Lists w lo hi a ll) (hb : Ints w lo' hi' b m) :
    Calls Try.prog 38 #[.slice a ll.length cap, .slice b m.length cap'] w fun e w' => e = .returned (.int .i64 (centreV ll m)) ∧ Drawn w w' := by
  cases h1 : cenB ll 4
  · go_enter Try.func38, Try.ntmps38
    go_wp2_with (go_at_call 49; refine (areVectors_any _ _ _ _ _ _ 4 ha).mono ?_; rintro e w' ⟨rfl, rfl⟩)
    go_ret
    exact ⟨ret_int (centreV_no1 h1).symm, Drawn.refl _⟩
  · cases h2 : vecB m 4
    · go_enter Try.func38, Try.ntmps38
      go_wp2_with (first | (go_at_call 49; refine (areVectors_any _ _ _ _ _ _ 4 ha).mono ?_; rintro e w' ⟨rfl, rfl⟩) | (go_at_call 66; refine (implIsVector _ _ _ _ _ _ 4 hb).mono ?_; rintro e w' ⟨rfl, rfl⟩))
      go_ret
      exact ⟨ret_int (centreV_no2 h2).symm, Drawn.refl _⟩
    · have D := Lib.hid (implCentreOfIn w _ _ _ _ _ _ cap cap' ll m ha hb (rowsOk_of (cenB_vecs h1) h2 (by omega)) (vecB_coords h2) (cenB_len h1).1)
      have HE := Lib.hid (centreV_yes h1 h2)
      go_enter Try.func38, Try.ntmps38
      go_wp2_with (first | (go_at_call 49; refine (areVectors_any _ _ _ _ _ _ 4 ha).mono ?_; rintro e w' ⟨rfl, rfl⟩) | (go_at_call 66; refine (implIsVector _ _ _ _ _ _ 4 hb).mono ?_; rintro e w' ⟨rfl, rfl⟩))
      refine D.out.mono ?_
      rintro e w' ⟨rfl, hd⟩
      have HD := Lib.hid hd
      clear hd
      go_wp2_with fail
      go_ret
      exact ⟨ret_int HE.out.symm, HD.out⟩


end Go.Proofs.Ytmpoljhdcgdnnaa
