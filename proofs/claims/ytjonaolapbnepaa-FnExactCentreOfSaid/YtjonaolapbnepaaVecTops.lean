/-
  The exported functions on vectors, centres and planes: what the program returns, what the reference returns.
-/
import Derived.Test.YtjonaolapbnepaaListWalks
import Derived.Test.YtjonaolapbnepaaCentreWalks
import Derived.Test.YtjonaolapbnepaaHashWalks
namespace Go.Proofs.Ytjonaolapbnepaa
open Go.RowKit
set_option linter.unusedVariables false

theorem implValidCentres (w : World) (lo hi : Nat) (a : Option Addr) (cap : Nat) (ll : List (List Int)) (h : Lists w lo hi a ll) :
    Calls Try.prog 18 #[.slice a ll.length cap] w fun e w' => e = .returned (.bool (cenB ll 4)) ∧ w = w' := by
  go_enter Try.func18, Try.ntmps18
  go_wp2_with (go_at_call 38; refine (areVectors_any _ _ _ _ _ _ 4 h).mono ?_; rintro e w' ⟨rfl, rfl⟩)
  go_ret
  exact ⟨rfl, rfl⟩
theorem specValidCentres (w : World) (lo hi : Nat) (a : Option Addr) (cap : Nat) (ll : List (List Int)) (h : Lists w lo hi a ll) :
    Calls Try.prog 16 #[.slice a ll.length cap] w fun e w' => e = .returned (.bool (cenB ll 4)) ∧ w = w' := by
  go_enter Try.func16, Try.ntmps16
  go_wp2_with (go_at_call 37; refine (validCentres_any _ _ _ _ _ _  h).mono ?_; rintro e w' ⟨rfl, rfl⟩)
  go_ret
  exact ⟨rfl, rfl⟩
theorem implValidPlanes (w : World) (lo hi : Nat) (a : Option Addr) (cap : Nat) (ll : List (List Int)) (h : Lists w lo hi a ll) :
    Calls Try.prog 21 #[.slice a ll.length cap] w fun e w' => e = .returned (.bool (cenB ll 6)) ∧ w = w' := by
  go_enter Try.func21, Try.ntmps21
  go_wp2_with (go_at_call 38; refine (areVectors_any _ _ _ _ _ _ 6 h).mono ?_; rintro e w' ⟨rfl, rfl⟩)
  go_ret
  exact ⟨rfl, rfl⟩
theorem specValidPlanes (w : World) (lo hi : Nat) (a : Option Addr) (cap : Nat) (ll : List (List Int)) (h : Lists w lo hi a ll) :
    Calls Try.prog 20 #[.slice a ll.length cap] w fun e w' => e = .returned (.bool (cenB ll 6)) ∧ w = w' := by
  go_enter Try.func20, Try.ntmps20
  go_wp2_with (go_at_call 39; refine (validPlanes_any _ _ _ _ _ _  h).mono ?_; rintro e w' ⟨rfl, rfl⟩)
  go_ret
  exact ⟨rfl, rfl⟩

theorem implValidVector (w : World) (lo hi : Nat) (a : Option Addr) (cap : Nat) (l : List Int) (h : Ints w lo hi a l) :
    Calls Try.prog 29 #[.slice a l.length cap] w fun e w' => e = .returned (.bool (vecB l 4)) ∧ w = w' := by
  go_enter Try.func29, Try.ntmps29
  go_wp2_with (go_at_call 45; refine (implIsVector _ _ _ _ _ _ _ h).mono ?_; rintro e w' ⟨rfl, rfl⟩)
  go_ret
  exact ⟨rfl, rfl⟩

/-- what CentreOf returns -/
def centreV (ll : List (List Int)) (m : List Int) : Int := if cenB ll 4 && vecB m 4 then (near ll m : Int) else -1
theorem centreV_yes {ll : List (List Int)} {m : List Int} (h1 : cenB ll 4 = true) (h2 : vecB m 4 = true) : centreV ll m = (near ll m : Int) := by
  unfold centreV; rw [h1, h2]; rfl
theorem centreV_no1 {ll : List (List Int)} {m : List Int} (h1 : cenB ll 4 = false) : centreV ll m = -1 := by
  unfold centreV; rw [h1]; rfl
theorem centreV_no2 {ll : List (List Int)} {m : List Int} (h2 : vecB m 4 = false) : centreV ll m = -1 := by
  unfold centreV; rw [h2, Bool.and_false]; rfl
/-- what HashOf returns -/
def hashV (ll : List (List Int)) (m : List Int) : Int := if cenB ll 6 && vecB m 4 then hash ll m ll.length else -1
theorem hashV_yes {ll : List (List Int)} {m : List Int} (h1 : cenB ll 6 = true) (h2 : vecB m 4 = true) : hashV ll m = hash ll m ll.length := by
  unfold hashV; rw [h1, h2]; rfl
theorem hashV_no1 {ll : List (List Int)} {m : List Int} (h1 : cenB ll 6 = false) : hashV ll m = -1 := by
  unfold hashV; rw [h1]; rfl
theorem hashV_no2 {ll : List (List Int)} {m : List Int} (h2 : vecB m 4 = false) : hashV ll m = -1 := by
  unfold hashV; rw [h2, Bool.and_false]; rfl

set_option maxHeartbeats 400000 in
theorem implCentreOfIn (w : World) (lo hi lo' hi' : Nat) (a b : Option Addr) (cap cap' : Nat) (ll : List (List Int)) (m : List Int) (ha : Lists w lo hi a ll) (hb : Ints w lo' hi' b m)
    (hr : RowsOk ll m) (hm : coordsB m = true) (h1 : 1 ≤ ll.length) :
    Calls Try.prog 50 #[.slice a ll.length cap, .slice b m.length cap'] w fun e w' => e = .returned (.int .i64 (near ll m : Int)) ∧ Drawn w w' := by
  have D := Lib.hid (closestOf_any w _ _ _ _ _ _ cap cap' ll m ha hb hr hm h1)
  clear hr hm
  go_enter Try.func50, Try.ntmps50
  go_wp2_with fail
  refine D.out.mono ?_
  rintro e w' ⟨rfl, hd⟩
  have HD := Lib.hid hd
  clear hd
  go_wp2_with fail
  go_ret
  exact ⟨rfl, HD.out⟩

set_option maxHeartbeats 400000 in
theorem implCentreOf (w : World) (lo hi lo' hi' : Nat) (a b : Option Addr) (cap cap' : Nat) (ll : List (List Int)) (m : List Int) (ha : Lists w lo hi a ll) (hb : Ints w lo' hi' b m) :
    Calls Try.prog 32 #[.slice a ll.length cap, .slice b m.length cap'] w fun e w' => e = .returned (.int .i64 (centreV ll m)) ∧ Drawn w w' := by
  cases h1 : cenB ll 4
  · go_enter Try.func32, Try.ntmps32
    go_wp2_with (go_at_call 38; refine (areVectors_any _ _ _ _ _ _ 4 ha).mono ?_; rintro e w' ⟨rfl, rfl⟩)
    go_ret
    exact ⟨ret_int (centreV_no1 h1).symm, Drawn.refl _⟩
  · cases h2 : vecB m 4
    · go_enter Try.func32, Try.ntmps32
      go_wp2_with (first | (go_at_call 38; refine (areVectors_any _ _ _ _ _ _ 4 ha).mono ?_; rintro e w' ⟨rfl, rfl⟩) | (go_at_call 45; refine (implIsVector _ _ _ _ _ _ 4 hb).mono ?_; rintro e w' ⟨rfl, rfl⟩))
      go_ret
      exact ⟨ret_int (centreV_no2 h2).symm, Drawn.refl _⟩
    · have D := Lib.hid (implCentreOfIn w _ _ _ _ _ _ cap cap' ll m ha hb (rowsOk_of (cenB_vecs h1) h2 (by omega)) (vecB_coords h2) (cenB_len h1).1)
      have HE := Lib.hid (centreV_yes h1 h2)
      go_enter Try.func32, Try.ntmps32
      go_wp2_with (first | (go_at_call 38; refine (areVectors_any _ _ _ _ _ _ 4 ha).mono ?_; rintro e w' ⟨rfl, rfl⟩) | (go_at_call 45; refine (implIsVector _ _ _ _ _ _ 4 hb).mono ?_; rintro e w' ⟨rfl, rfl⟩))
      refine D.out.mono ?_
      rintro e w' ⟨rfl, hd⟩
      have HD := Lib.hid hd
      clear hd
      go_wp2_with fail
      go_ret
      exact ⟨ret_int HE.out.symm, HD.out⟩
set_option maxHeartbeats 400000 in
theorem specCentreOf (w : World) (lo hi lo' hi' : Nat) (a b : Option Addr) (cap cap' : Nat) (ll : List (List Int)) (m : List Int) (ha : Lists w lo hi a ll) (hb : Ints w lo' hi' b m) :
    Calls Try.prog 31 #[.slice a ll.length cap, .slice b m.length cap'] w fun e w' => e = .returned (.int .i64 (centreV ll m)) ∧ Drawn w w' := by
  cases h1 : cenB ll 4
  · go_enter Try.func31, Try.ntmps31
    go_wp2_with (go_at_call 37; refine (validCentres_any _ _ _ _ _ _  ha).mono ?_; rintro e w' ⟨rfl, rfl⟩)
    go_ret
    exact ⟨ret_int (centreV_no1 h1).symm, Drawn.refl _⟩
  · cases h2 : vecB m 4
    · go_enter Try.func31, Try.ntmps31
      go_wp2_with (first | (go_at_call 37; refine (validCentres_any _ _ _ _ _ _  ha).mono ?_; rintro e w' ⟨rfl, rfl⟩) | (go_at_call 43; refine (specIsVector _ _ _ _ _ _ hb).mono ?_; rintro e w' ⟨rfl, rfl⟩))
      go_ret
      exact ⟨ret_int (centreV_no2 h2).symm, Drawn.refl _⟩
    · have D := Lib.hid (centreOf_any w _ _ _ _ _ _ cap cap' ll m ha hb (rowsOk_of (cenB_vecs h1) h2 (by omega)) (vecB_coords h2) (cenB_len h1).1)
      have HE := Lib.hid (centreV_yes h1 h2)
      go_enter Try.func31, Try.ntmps31
      go_wp2_with (first | (go_at_call 37; refine (validCentres_any _ _ _ _ _ _  ha).mono ?_; rintro e w' ⟨rfl, rfl⟩) | (go_at_call 43; refine (specIsVector _ _ _ _ _ _ hb).mono ?_; rintro e w' ⟨rfl, rfl⟩))
      refine D.out.mono ?_
      rintro e w' ⟨rfl, hd⟩
      have HD := Lib.hid hd
      clear hd
      go_wp2_with fail
      go_ret
      exact ⟨ret_int HE.out.symm, HD.out⟩
set_option maxHeartbeats 400000 in
theorem implHashOf (w : World) (lo hi lo' hi' : Nat) (a b : Option Addr) (cap cap' : Nat) (ll : List (List Int)) (m : List Int) (ha : Lists w lo hi a ll) (hb : Ints w lo' hi' b m) :
    Calls Try.prog 26 #[.slice a ll.length cap, .slice b m.length cap'] w fun e w' => e = .returned (.int .i64 (hashV ll m)) ∧ Drawn w w' := by
  cases h1 : cenB ll 6
  · go_enter Try.func26, Try.ntmps26
    go_wp2_with (go_at_call 38; refine (areVectors_any _ _ _ _ _ _ 6 ha).mono ?_; rintro e w' ⟨rfl, rfl⟩)
    go_ret
    exact ⟨ret_int (hashV_no1 h1).symm, Drawn.refl _⟩
  · cases h2 : vecB m 4
    · go_enter Try.func26, Try.ntmps26
      go_wp2_with (first | (go_at_call 38; refine (areVectors_any _ _ _ _ _ _ 6 ha).mono ?_; rintro e w' ⟨rfl, rfl⟩) | (go_at_call 45; refine (implIsVector _ _ _ _ _ _ 4 hb).mono ?_; rintro e w' ⟨rfl, rfl⟩))
      go_ret
      exact ⟨ret_int (hashV_no2 h2).symm, Drawn.refl _⟩
    · have D := Lib.hid (calls_drawn (hashOf_any w _ _ _ _ _ _ cap cap' ll m ha hb (rowsOk_of (cenB_vecs h1) h2 (by omega)) (vecB_coords h2) (by have := (cenB_len h1).2; omega)))
      have HE := Lib.hid (hashV_yes h1 h2)
      go_enter Try.func26, Try.ntmps26
      go_wp2_with (first | (go_at_call 38; refine (areVectors_any _ _ _ _ _ _ 6 ha).mono ?_; rintro e w' ⟨rfl, rfl⟩) | (go_at_call 45; refine (implIsVector _ _ _ _ _ _ 4 hb).mono ?_; rintro e w' ⟨rfl, rfl⟩))
      refine D.out.mono ?_
      rintro e w' ⟨rfl, hd⟩
      have HD := Lib.hid hd
      clear hd
      go_wp2_with fail
      go_ret
      exact ⟨ret_int HE.out.symm, HD.out⟩
set_option maxHeartbeats 400000 in
theorem specHashOfTop (w : World) (lo hi lo' hi' : Nat) (a b : Option Addr) (cap cap' : Nat) (ll : List (List Int)) (m : List Int) (ha : Lists w lo hi a ll) (hb : Ints w lo' hi' b m) :
    Calls Try.prog 24 #[.slice a ll.length cap, .slice b m.length cap'] w fun e w' => e = .returned (.int .i64 (hashV ll m)) ∧ Drawn w w' := by
  cases h1 : cenB ll 6
  · go_enter Try.func24, Try.ntmps24
    go_wp2_with (go_at_call 39; refine (validPlanes_any _ _ _ _ _ _  ha).mono ?_; rintro e w' ⟨rfl, rfl⟩)
    go_ret
    exact ⟨ret_int (hashV_no1 h1).symm, Drawn.refl _⟩
  · cases h2 : vecB m 4
    · go_enter Try.func24, Try.ntmps24
      go_wp2_with (first | (go_at_call 39; refine (validPlanes_any _ _ _ _ _ _  ha).mono ?_; rintro e w' ⟨rfl, rfl⟩) | (go_at_call 43; refine (specIsVector _ _ _ _ _ _ hb).mono ?_; rintro e w' ⟨rfl, rfl⟩))
      go_ret
      exact ⟨ret_int (hashV_no2 h2).symm, Drawn.refl _⟩
    · have D := Lib.hid (specHashOf w _ _ _ _ _ _ cap cap' ll m ha hb (rowsOk_of (cenB_vecs h1) h2 (by omega)) (vecB_coords h2) (by have := (cenB_len h1).2; omega))
      have HE := Lib.hid (hashV_yes h1 h2)
      go_enter Try.func24, Try.ntmps24
      go_wp2_with (first | (go_at_call 39; refine (validPlanes_any _ _ _ _ _ _  ha).mono ?_; rintro e w' ⟨rfl, rfl⟩) | (go_at_call 43; refine (specIsVector _ _ _ _ _ _ hb).mono ?_; rintro e w' ⟨rfl, rfl⟩))
      refine D.out.mono ?_
      rintro e w' ⟨rfl, hd⟩
      have HD := Lib.hid hd
      clear hd
      go_wp2_with fail
      go_ret
      exact ⟨ret_int HE.out.symm, HD.out⟩

/-- what DotOf returns -/
def dotB (l m : List Int) : Bool := vecB l 4 && vecB m 4
set_option maxHeartbeats 400000 in
theorem implDotOf (w : World) (lo hi lo' hi' : Nat) (a b : Option Addr) (cap cap' : Nat) (l m : List Int) (ha : Ints w lo hi a l) (hb : Ints w lo' hi' b m) (h1 : vecB l 4 = true) (h2 : vecB m 4 = true) :
    Calls Try.prog 30 #[.slice a l.length cap, .slice b m.length cap'] w fun e w' => e = .returned (.tuple #[.int .i64 (dot l m l.length), .bool true]) ∧ w = w' := by
  have e1 := vecB_len h1
  have e2 := vecB_len h2
  have D := Lib.hid (dotOf_any w _ _ _ _ _ _ cap cap' l m ha hb (vecB_coords h1) (vecB_coords h2) (by omega) (by omega))
  clear e1 e2
  go_enter Try.func30, Try.ntmps30
  go_wp2_with fail
  refine (implIsVector _ _ _ _ _ _ 4 ha).mono ?_
  rintro e w' ⟨rfl, rfl⟩
  go_wp2_with fail
  refine (implIsVector _ _ _ _ _ _ 4 hb).mono ?_
  rintro e w' ⟨rfl, rfl⟩
  go_wp2_with fail
  refine D.out.mono ?_
  rintro e w' ⟨rfl, rfl⟩
  go_wp2_with fail
  go_ret2
  exact ⟨rfl, rfl⟩

/-- a kind of distances -/
def kindB (kind : Int) : Bool := decide (1 ≤ kind ∧ kind ≤ 4)
theorem isKind_any (kind : Int) (w : World) : Calls Try.prog 51 #[.int .i64 kind] w fun e w' => e = .returned (.bool (kindB kind)) ∧ w = w' := by
  by_cases h1 : 1 ≤ kind
  · by_cases h2 : kind ≤ 4
    · go_enter Try.func51, Try.ntmps51
      go_wp2
      go_ret
      exact ⟨ret_bool (show true = kindB kind from (decide_eq_true (by omega)).symm), rfl⟩
    · go_enter Try.func51, Try.ntmps51
      go_wp2
      go_ret
      exact ⟨ret_bool (show false = kindB kind from (decide_eq_false (by omega)).symm), rfl⟩
  · go_enter Try.func51, Try.ntmps51
    go_wp2
    go_ret
    exact ⟨ret_bool (show false = kindB kind from (decide_eq_false (by omega)).symm), rfl⟩
set_option maxHeartbeats 400000 in
theorem implDistanceOf (w : World) (lo hi lo' hi' : Nat) (a b : Option Addr) (cap cap' : Nat) (l m : List Int) (kind : Int) (ha : Ints w lo hi a l) (hb : Ints w lo' hi' b m) (hk : 1 ≤ kind ∧ kind ≤ 4) (h1 : vecB l 4 = true) (h2 : vecB m 4 = true) :
    Calls Try.prog 34 #[.int .i64 kind, .slice a l.length cap, .slice b m.length cap'] w fun e w' => e = .returned (.int .i64 (dst kind l m l.length)) ∧ Drawn w w' := by
  have e1 := vecB_len h1
  have e2 := vecB_len h2
  have D := Lib.hid (implDistance w _ _ _ _ _ _ cap cap' l m kind ha hb (vecB_coords h1) (vecB_coords h2) (by omega) (by omega))
  have hk' : kindB kind = true := decide_eq_true hk
  clear e1 e2
  go_enter Try.func34, Try.ntmps34
  go_wp2_with fail
  refine (isKind_any _ _).mono ?_
  rintro e w' ⟨rfl, rfl⟩
  go_wp2_with fail
  refine (implIsVector _ _ _ _ _ _ 4 ha).mono ?_
  rintro e w' ⟨rfl, rfl⟩
  go_wp2_with fail
  refine (implIsVector _ _ _ _ _ _ 4 hb).mono ?_
  rintro e w' ⟨rfl, rfl⟩
  go_wp2_with fail
  refine D.out.mono ?_
  rintro e w' ⟨rfl, hd⟩
  have HD := Lib.hid hd
  clear hd
  go_wp2_with fail
  go_ret
  exact ⟨rfl, HD.out⟩
end Go.Proofs.Ytjonaolapbnepaa
