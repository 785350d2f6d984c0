/-
  MoveCentres, for all arguments.
-/
import Derived.Test.YtfgjmfnbpbanmaaMoveWalks
import Derived.Test.YtfgjmfnbpbanmaaClusLaws
namespace Go.Proofs.Ytfgjmfnbpbanmaa
open Go.RowKit
set_option linter.unusedVariables false

theorem movV_ok (cs : List (List Int)) (ll : List It) : LOk (movV cs ll) := by
  cases h : csB cs ll
  · rw [movV_no h]; exact lOk_nil
  · rw [movV_yes h]
    have h2 := (cenB_len (csB_cen h)).2
    refine ⟨by rw [movT_length]; omega, fun j hj => ?_⟩
    rw [movT_length] at hj
    rw [movT_get hj]
    have hv := movC_vec h hj
    have hl := vecB_len hv
    exact ⟨by omega, fun x hx => by have := coordsB_ok (vecB_coords hv) x hx; omega⟩
set_option maxHeartbeats 1000000 in
theorem implMoveCentres_no (w : World) (lo hi lo' hi' : Nat) (a b : Option Addr) (cap cap' : Nat) (cs : List (List Int)) (ll : List It) (hA : Lists w lo hi a cs) (hI : Items w lo' hi' b ll) (hv : csB cs ll = false) :
    Calls Try.prog 14 #[.slice a cs.length cap, .slice b ll.length cap'] w (NilR w) := by
  have HB : Hid (Below w.heap.size w w) := Lib.hid (Below.refl _ _)
  rcases csB_cases hv with h1 | ⟨h1, h2⟩
  · go_enter Try.func14, Try.ntmps14
    go_wp2_with fail
    refine (areVectors_any _ _ _ _ _ _ 4 hA).mono ?_
    rintro e w2 ⟨rfl, rfl⟩
    go_wp2_with fail
    go_ret
    exact ⟨rfl, HB.out⟩
  · go_enter Try.func14, Try.ntmps14
    go_wp2_with fail
    refine (areVectors_any _ _ _ _ _ _ 4 hA).mono ?_
    rintro e w2 ⟨rfl, rfl⟩
    go_wp2_with fail
    refine (implValidStore _ _ _ _ _ _ hI).mono ?_
    rintro e w2 ⟨rfl, hb2⟩
    replace HB := Lib.hid (HB.out.trans (hb2.mono HB.out.size))
    clear hb2
    go_wp2_with fail
    go_ret
    exact ⟨rfl, HB.out⟩
set_option maxHeartbeats 1000000 in
theorem implMoveCentres_yes (w : World) (lo hi lo' hi' : Nat) (a b : Option Addr) (cap cap' : Nat) (cs : List (List Int)) (ll : List It) (hA : Lists w lo hi a cs) (hI : Items w lo' hi' b ll) (hv : csB cs ll = true) :
    Calls Try.prog 14 #[.slice a cs.length cap, .slice b ll.length cap'] w (NewLists w (movT cs ll cs.length)) := by
  have h1 := csB_cen hv
  have h2 := csB_store hv
  have HV := Lib.hid hv
  go_enter Try.func14, Try.ntmps14
  go_wp2_with fail
  refine (areVectors_any _ _ _ _ _ _ 4 hA).mono ?_
  rintro e w2 ⟨rfl, rfl⟩
  go_wp2_with fail
  refine (implValidStore _ _ _ _ _ _ hI).mono ?_
  rintro e w2 ⟨rfl, hb2⟩
  have hA2 := hA.below hb2
  have hI2 := hI.below hb2
  have HB := Lib.hid hb2
  clear hb2
  go_wp2_with fail
  clear h1 h2
  refine (implMoveIn _ _ _ _ _ _ _ _ _ cs ll hA2 hI2 HV.out).mono ?_
  rintro e w3 h3
  have H3 := h3.later HB.out
  obtain ⟨ra, rc, vs, rfl, ho, hr, hb⟩ := H3
  have H4 := Lib.hid (And.intro ho (And.intro hr hb))
  clear ho hr hb h3
  go_wp2_with fail
  go_ret
  exact ⟨ra, rc, vs, rfl, H4.out⟩
theorem implMoveCentres_new (w : World) (lo hi lo' hi' : Nat) (a b : Option Addr) (cap cap' : Nat) (cs : List (List Int)) (ll : List It) (hA : Lists w lo hi a cs) (hI : Items w lo' hi' b ll) :
    Calls Try.prog 14 #[.slice a cs.length cap, .slice b ll.length cap'] w (NewLists w (movV cs ll)) := by
  cases hv : csB cs ll
  · rw [movV_no hv]
    exact (implMoveCentres_no w lo hi lo' hi' a b cap cap' cs ll hA hI hv).mono fun _ _ h => by
      obtain ⟨rfl, hb⟩ := h
      exact NewLists.nil hb
  · rw [movV_yes hv]
    exact implMoveCentres_yes w lo hi lo' hi' a b cap cap' cs ll hA hI hv
theorem implMoveCentres_read (w : World) (lo hi lo' hi' : Nat) (a b : Option Addr) (cap cap' : Nat) (cs : List (List Int)) (ll : List It) (hA : Lists w lo hi a cs) (hI : Items w lo' hi' b ll) :
    Calls Try.prog 14 #[.slice a cs.length cap, .slice b ll.length cap'] w (GetLists w (movV cs ll)) :=
  (implMoveCentres_new w lo hi lo' hi' a b cap cap' cs ll hA hI).mono fun _ _ h => h.read (movV_ok cs ll)
set_option maxHeartbeats 1000000 in
theorem specMoveCentres_no (w : World) (lo hi lo' hi' : Nat) (a b : Option Addr) (cap cap' : Nat) (cs : List (List Int)) (ll : List It) (hA : Lists w lo hi a cs) (hI : Items w lo' hi' b ll) (hv : csB cs ll = false) :
    Calls Try.prog 11 #[.slice a cs.length cap, .slice b ll.length cap'] w (NilR w) := by
  have HB : Hid (Below w.heap.size w w) := Lib.hid (Below.refl _ _)
  rcases csB_cases hv with h1 | ⟨h1, h2⟩
  · go_enter Try.func11, Try.ntmps11
    go_wp2_with fail
    refine (validCentres_any _ _ _ _ _ _  hA).mono ?_
    rintro e w2 ⟨rfl, rfl⟩
    go_wp2_with fail
    go_ret
    exact ⟨rfl, HB.out⟩
  · go_enter Try.func11, Try.ntmps11
    go_wp2_with fail
    refine (validCentres_any _ _ _ _ _ _  hA).mono ?_
    rintro e w2 ⟨rfl, rfl⟩
    go_wp2_with fail
    refine (specValidStoreIn _ _ _ _ _ _ hI).mono ?_
    rintro e w2 ⟨rfl, hb2⟩
    replace HB := Lib.hid (HB.out.trans (hb2.mono HB.out.size))
    clear hb2
    go_wp2_with fail
    go_ret
    exact ⟨rfl, HB.out⟩
set_option maxHeartbeats 1000000 in
theorem specMoveCentres_yes (w : World) (lo hi lo' hi' : Nat) (a b : Option Addr) (cap cap' : Nat) (cs : List (List Int)) (ll : List It) (hA : Lists w lo hi a cs) (hI : Items w lo' hi' b ll) (hv : csB cs ll = true) :
    Calls Try.prog 11 #[.slice a cs.length cap, .slice b ll.length cap'] w (NewLists w (movT cs ll cs.length)) := by
  have h1 := csB_cen hv
  have h2 := csB_store hv
  have HV := Lib.hid hv
  go_enter Try.func11, Try.ntmps11
  go_wp2_with fail
  refine (validCentres_any _ _ _ _ _ _  hA).mono ?_
  rintro e w2 ⟨rfl, rfl⟩
  go_wp2_with fail
  refine (specValidStoreIn _ _ _ _ _ _ hI).mono ?_
  rintro e w2 ⟨rfl, hb2⟩
  have hA2 := hA.below hb2
  have hI2 := hI.below hb2
  have HB := Lib.hid hb2
  clear hb2
  go_wp2_with fail
  clear h1 h2
  refine (specMoveIn _ _ _ _ _ _ _ _ _ cs ll hA2 hI2 HV.out).mono ?_
  rintro e w3 h3
  have H3 := h3.later HB.out
  obtain ⟨ra, rc, vs, rfl, ho, hr, hb⟩ := H3
  have H4 := Lib.hid (And.intro ho (And.intro hr hb))
  clear ho hr hb h3
  go_wp2_with fail
  go_ret
  exact ⟨ra, rc, vs, rfl, H4.out⟩
theorem specMoveCentres_new (w : World) (lo hi lo' hi' : Nat) (a b : Option Addr) (cap cap' : Nat) (cs : List (List Int)) (ll : List It) (hA : Lists w lo hi a cs) (hI : Items w lo' hi' b ll) :
    Calls Try.prog 11 #[.slice a cs.length cap, .slice b ll.length cap'] w (NewLists w (movV cs ll)) := by
  cases hv : csB cs ll
  · rw [movV_no hv]
    exact (specMoveCentres_no w lo hi lo' hi' a b cap cap' cs ll hA hI hv).mono fun _ _ h => by
      obtain ⟨rfl, hb⟩ := h
      exact NewLists.nil hb
  · rw [movV_yes hv]
    exact specMoveCentres_yes w lo hi lo' hi' a b cap cap' cs ll hA hI hv
theorem specMoveCentres_read (w : World) (lo hi lo' hi' : Nat) (a b : Option Addr) (cap cap' : Nat) (cs : List (List Int)) (ll : List It) (hA : Lists w lo hi a cs) (hI : Items w lo' hi' b ll) :
    Calls Try.prog 11 #[.slice a cs.length cap, .slice b ll.length cap'] w (GetLists w (movV cs ll)) :=
  (specMoveCentres_new w lo hi lo' hi' a b cap cap' cs ll hA hI).mono fun _ _ h => h.read (movV_ok cs ll)
theorem ownP_one {cs : List (List Int)} (h : cenB cs 4 = true) (ll : List It) (k : Nat) : ownP (cs.take 1) ll 0 k = posL ll k := by
  induction k with
  | zero => rfl
  | succ k ih => rw [ownP_yes (asg_one h ll k), ih, posL_succ]
theorem movV_one {cs : List (List Int)} {ll : List It} (h : csB cs ll = true) : movV (cs.take 1) ll = if ll.length = 0 then cs.take 1 else [meanT (posL ll ll.length) 4] := by
  have h1 := cenB_one (csB_cen h)
  have hlc := (cenB_len (csB_cen h)).1
  have e1 : (cs.take 1).length = 1 := by simp; omega
  rw [movV_yes (csB_mk h1 (csB_store h)), e1]
  show [movC (cs.take 1) ll 0] = _
  by_cases h0 : ll.length = 0
  · have hn : ownP (cs.take 1) ll 0 ll.length = [] := by rw [h0]; rfl
    rw [movC_nil hn, if_pos h0]
    refine ext_getD [] (by rw [e1]; rfl) fun j hj => ?_
    have : j = 0 := by simp at hj; omega
    subst this
    rfl
  · have hn : ¬ ownP (cs.take 1) ll 0 ll.length = [] := by
      rw [ownP_one (csB_cen h)]
      intro e
      have := congrArg List.length e
      rw [posL_length] at this
      exact h0 this
    rw [movC_mean hn, if_neg h0, ownP_one (csB_cen h)]
theorem movV_none {cs : List (List Int)} {ll : List It} (h : csB cs ll = true) (h0 : ll.length = 0) : movV cs ll = cs := by
  rw [movV_yes h]
  refine ext_getD [] (movT_length _ _ _) fun j hj => ?_
  rw [movT_length] at hj
  rw [movT_get hj, movC_nil (by rw [h0]; rfl)]
theorem movV_alone {cs : List (List Int)} {ll : List It} (h : csB cs ll = true) {c : Nat} (hc : c < cs.length) (hn : (asgL cs ll ll.length).contains (c : Int) = false) : (movV cs ll).getD c [] = cs.getD c [] := by
  rw [movV_yes h, movT_get hc]
  refine movC_nil ((ownP_nil ll.length).2 fun j hj e => ?_)
  have hm : (c : Int) ∈ asgL cs ll ll.length := by
    unfold asgL
    exact List.mem_map.2 ⟨j, List.mem_range.2 hj, by rw [e]⟩
  have : (asgL cs ll ll.length).contains (c : Int) = true := by simpa using hm
  rw [hn] at this
  cases this
end Go.Proofs.Ytfgjmfnbpbanmaa
