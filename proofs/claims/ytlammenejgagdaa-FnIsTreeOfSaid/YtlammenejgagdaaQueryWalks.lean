/-
  The tests ahead of a search: canFind, validQuery; and Nearest.
-/
import Derived.Test.YtlammenejgagdaaNearWalks
import Derived.Test.YtlammenejgagdaaStoreWalks
import Derived.Test.YtlammenejgagdaaOneTops
namespace Go.Proofs.Ytlammenejgagdaa
open Go.RowKit
set_option linter.unusedVariables false

/-- a kind of distances -/
def kndB (kind : Int) : Bool := inR kind 1 4
/-- a valid query -/
def qryB (ll : List It) (kind : Int) (m : List Int) : Bool := storeB ll && (kndB kind && vecB m 4)
/-- .. with a valid number of items -/
def findB (ll : List It) (kind : Int) (m : List Int) (k : Int) : Bool := qryB ll kind m && inR k 1 16
theorem qryB_store {ll : List It} {kind : Int} {m : List Int} (h : qryB ll kind m = true) : storeB ll = true := by
  unfold qryB at h; simp only [Bool.and_eq_true] at h; exact h.1
theorem qryB_kind {ll : List It} {kind : Int} {m : List Int} (h : qryB ll kind m = true) : 1 ≤ kind ∧ kind ≤ 4 := by
  unfold qryB kndB inR at h; simp only [Bool.and_eq_true, decide_eq_true_eq] at h; exact h.2.1
theorem qryB_vec {ll : List It} {kind : Int} {m : List Int} (h : qryB ll kind m = true) : vecB m 4 = true := by
  unfold qryB at h; simp only [Bool.and_eq_true] at h; exact h.2.2
theorem findB_qry {ll : List It} {kind : Int} {m : List Int} {k : Int} (h : findB ll kind m k = true) : qryB ll kind m = true := by
  unfold findB at h; simp only [Bool.and_eq_true] at h; exact h.1
theorem findB_num {ll : List It} {kind : Int} {m : List Int} {k : Int} (h : findB ll kind m k = true) : 1 ≤ k ∧ k ≤ 16 := by
  unfold findB inR at h; simp only [Bool.and_eq_true, decide_eq_true_eq] at h; exact h.2
theorem findB_mk {ll : List It} {kind : Int} {m : List Int} {k : Int} (h : qryB ll kind m = true) (hk : 1 ≤ k ∧ k ≤ 16) : findB ll kind m k = true := by
  unfold findB; rw [h, inR_true hk]; rfl
theorem isKnd_any (kind : Int) (w : World) : Calls Try.prog 48 #[.int .i64 kind] w fun e w' => e = .returned (.bool (kndB kind)) ∧ w = w' := by
  by_cases h1 : 1 ≤ kind
  · by_cases h2 : kind ≤ 4
    · go_enter Try.func48, Try.ntmps48
      go_wp2
      go_ret
      exact ⟨ret_bool (show true = kndB kind from (decide_eq_true (by omega)).symm), rfl⟩
    · go_enter Try.func48, Try.ntmps48
      go_wp2
      go_ret
      exact ⟨ret_bool (show false = kndB kind from (decide_eq_false (by omega)).symm), rfl⟩
  · go_enter Try.func48, Try.ntmps48
    go_wp2
    go_ret
    exact ⟨ret_bool (show false = kndB kind from (decide_eq_false (by omega)).symm), rfl⟩
theorem validKind_any (kind : Int) (w : World) : Calls Try.prog 55 #[.int .i64 kind] w fun e w' => e = .returned (.bool (kndB kind)) ∧ w = w' := by
  go_enter Try.func55, Try.ntmps55
  go_wp2_with fail
  refine (inRange_any _ _ _ _).mono ?_
  rintro e w2 ⟨rfl, rfl⟩
  go_wp2_with fail
  go_ret
  exact ⟨rfl, rfl⟩
set_option maxHeartbeats 1000000 in
theorem canFind_any (w : World) (lo hi lo' hi' : Nat) (a b : Option Addr) (cap capm : Nat) (kind k : Int) (ll : List It) (m : List Int) (hI : Items w lo hi a ll) (hB : Ints w lo' hi' b m) :
    Calls Try.prog 35 #[.slice a ll.length cap, .int .i64 kind, .slice b m.length capm, .int .i64 k] w fun e w' => e = .returned (.bool (findB ll kind m k)) ∧ Below w.heap.size w w' := by
  cases h1 : storeB ll
  · have hr : findB ll kind m k = false := by unfold findB qryB; rw [h1]; rfl
    rw [hr]
    clear hr
    go_enter Try.func35, Try.ntmps35
    go_wp2_with fail
    refine (implValidStore _ _ _ _ _ _ hI).mono ?_
    rintro e w2 ⟨rfl, hb2⟩
    replace hB := hB.below hb2
    have HB := Lib.hid hb2
    clear hb2
    go_wp2_with fail
    go_ret
    exact ⟨rfl, HB.out⟩
  · cases h2 : kndB kind
    · have hr : findB ll kind m k = false := by unfold findB qryB; rw [h1, h2]; rfl
      rw [hr]
      clear hr
      go_enter Try.func35, Try.ntmps35
      go_wp2_with fail
      refine (implValidStore _ _ _ _ _ _ hI).mono ?_
      rintro e w2 ⟨rfl, hb2⟩
      replace hB := hB.below hb2
      have HB := Lib.hid hb2
      clear hb2
      go_wp2_with fail
      refine (isKnd_any _ _).mono ?_
      rintro e w3 ⟨rfl, rfl⟩
      go_wp2_with fail
      go_ret
      exact ⟨rfl, HB.out⟩
    · cases h3 : vecB m 4
      · have hr : findB ll kind m k = false := by unfold findB qryB; rw [h1, h2, h3]; rfl
        rw [hr]
        clear hr
        go_enter Try.func35, Try.ntmps35
        go_wp2_with fail
        refine (implValidStore _ _ _ _ _ _ hI).mono ?_
        rintro e w2 ⟨rfl, hb2⟩
        replace hB := hB.below hb2
        have HB := Lib.hid hb2
        clear hb2
        go_wp2_with fail
        refine (isKnd_any _ _).mono ?_
        rintro e w3 ⟨rfl, rfl⟩
        go_wp2_with fail
        refine (implIsVector _ _ _ _ _ _ 4 hB).mono ?_
        rintro e w4 ⟨rfl, rfl⟩
        go_wp2_with fail
        go_ret
        exact ⟨rfl, HB.out⟩
      · have HR : Hid (findB ll kind m k = inR k 1 16) := Lib.hid (by unfold findB qryB; rw [h1, h2, h3]; rfl)
        rw [HR.out]
        by_cases h4 : 1 ≤ k
        · have d1 : decide (1 ≤ k) = true := decide_eq_true h4
          have HE : Hid (inR k 1 16 = decide (k ≤ 16)) := Lib.hid (by unfold inR; simp [h4])
          rw [HE.out]
          clear h4
          go_enter Try.func35, Try.ntmps35
          go_wp2_with fail
          refine (implValidStore _ _ _ _ _ _ hI).mono ?_
          rintro e w2 ⟨rfl, hb2⟩
          replace hB := hB.below hb2
          have HB := Lib.hid hb2
          clear hb2
          go_wp2_with fail
          refine (isKnd_any _ _).mono ?_
          rintro e w3 ⟨rfl, rfl⟩
          go_wp2_with fail
          refine (implIsVector _ _ _ _ _ _ 4 hB).mono ?_
          rintro e w4 ⟨rfl, rfl⟩
          go_wp2_with fail
          go_ret
          exact ⟨rfl, HB.out⟩
        · have d1 : decide (1 ≤ k) = false := decide_eq_false h4
          have HE : Hid (inR k 1 16 = false) := Lib.hid (inR_false (by omega))
          rw [HE.out]
          clear h4
          go_enter Try.func35, Try.ntmps35
          go_wp2_with fail
          refine (implValidStore _ _ _ _ _ _ hI).mono ?_
          rintro e w2 ⟨rfl, hb2⟩
          replace hB := hB.below hb2
          have HB := Lib.hid hb2
          clear hb2
          go_wp2_with fail
          refine (isKnd_any _ _).mono ?_
          rintro e w3 ⟨rfl, rfl⟩
          go_wp2_with fail
          refine (implIsVector _ _ _ _ _ _ 4 hB).mono ?_
          rintro e w4 ⟨rfl, rfl⟩
          go_wp2_with fail
          go_ret
          exact ⟨rfl, HB.out⟩
set_option maxHeartbeats 1000000 in
theorem validQuery_any (w : World) (lo hi lo' hi' : Nat) (a b : Option Addr) (cap capm : Nat) (kind : Int) (ll : List It) (m : List Int) (hI : Items w lo hi a ll) (hB : Ints w lo' hi' b m) :
    Calls Try.prog 37 #[.slice a ll.length cap, .int .i64 kind, .slice b m.length capm] w fun e w' => e = .returned (.bool (qryB ll kind m)) ∧ Below w.heap.size w w' := by
  cases h1 : storeB ll
  · have hr : qryB ll kind m = false := by unfold qryB; rw [h1]; rfl
    rw [hr]
    clear hr
    go_enter Try.func37, Try.ntmps37
    go_wp2_with fail
    refine (specValidStoreIn _ _ _ _ _ _ hI).mono ?_
    rintro e w2 ⟨rfl, hb2⟩
    replace hB := hB.below hb2
    have HB := Lib.hid hb2
    clear hb2
    go_wp2_with fail
    go_ret
    exact ⟨rfl, HB.out⟩
  · cases h2 : kndB kind
    · have hr : qryB ll kind m = false := by unfold qryB; rw [h1, h2]; rfl
      rw [hr]
      clear hr
      go_enter Try.func37, Try.ntmps37
      go_wp2_with fail
      refine (specValidStoreIn _ _ _ _ _ _ hI).mono ?_
      rintro e w2 ⟨rfl, hb2⟩
      replace hB := hB.below hb2
      have HB := Lib.hid hb2
      clear hb2
      go_wp2_with fail
      refine (validKind_any _ _).mono ?_
      rintro e w3 ⟨rfl, rfl⟩
      go_wp2_with fail
      go_ret
      exact ⟨rfl, HB.out⟩
    · have hr : qryB ll kind m = vecB m 4 := by unfold qryB; rw [h1, h2]; rfl
      rw [hr]
      clear hr
      go_enter Try.func37, Try.ntmps37
      go_wp2_with fail
      refine (specValidStoreIn _ _ _ _ _ _ hI).mono ?_
      rintro e w2 ⟨rfl, hb2⟩
      replace hB := hB.below hb2
      have HB := Lib.hid hb2
      clear hb2
      go_wp2_with fail
      refine (validKind_any _ _).mono ?_
      rintro e w3 ⟨rfl, rfl⟩
      go_wp2_with fail
      refine (specIsVector _ _ _ _ _ _ hB).mono ?_
      rintro e w4 ⟨rfl, rfl⟩
      go_wp2_with fail
      go_ret
      exact ⟨rfl, HB.out⟩
/-- what Nearest answers -/
def nrV (kind : Int) (m : List Int) (ll : List It) (k : Int) : List Ht := if findB ll kind m k then nrI kind m ll k.toNat else []
theorem nrV_yes {kind : Int} {m : List Int} {ll : List It} {k : Int} (h : findB ll kind m k = true) : nrV kind m ll k = nrI kind m ll k.toNat := by unfold nrV; rw [h]; rfl
theorem nrV_no {kind : Int} {m : List Int} {ll : List It} {k : Int} (h : findB ll kind m k = false) : nrV kind m ll k = [] := by unfold nrV; rw [h]; rfl
set_option maxHeartbeats 1000000 in
theorem implNearest_new (w : World) (lo hi lo' hi' : Nat) (a b : Option Addr) (cap capm : Nat) (kind k : Int) (ll : List It) (m : List Int) (hI : Items w lo hi a ll) (hB : Ints w lo' hi' b m) :
    Calls Try.prog 18 #[.slice a ll.length cap, .int .i64 kind, .slice b m.length capm, .int .i64 k] w (NewHits w (nrV kind m ll k)) := by
  have CF := Lib.hid (canFind_any w lo hi lo' hi' a b cap capm kind k ll m hI hB)
  cases hf : findB ll kind m k
  · rw [nrV_no hf]
    rw [hf] at CF
    go_enter Try.func18, Try.ntmps18
    go_wp2_with fail
    refine CF.out.mono ?_
    rintro e w2 ⟨rfl, hb2⟩
    have HB := Lib.hid hb2
    clear hb2
    go_wp2_with fail
    go_ret
    exact NewHits.nil HB.out
  · rw [nrV_yes hf]
    rw [hf] at CF
    have hk := findB_num hf
    obtain ⟨n, rfl⟩ : ∃ n : Nat, k = (n : Int) := ⟨k.toNat, by omega⟩
    rw [Int.toNat_natCast]
    have hs := qryB_store (findB_qry hf)
    have NI := Lib.hid fun w2 (hb : Below w.heap.size w w2) => implNearest_in w2 lo hi lo' hi' a b cap capm n kind ll m (hI.below hb) (hB.below hb) (fun j hj => storeB_vec hs hj) (qryB_vec (findB_qry hf)) (by have := storeB_len hs; omega) (by omega) (storeB_AscI hs).nodup
    clear hs hk hf
    go_enter Try.func18, Try.ntmps18
    go_wp2_with fail
    refine CF.out.mono ?_
    rintro e w2 ⟨rfl, hb2⟩
    have HB := Lib.hid hb2
    clear hb2
    go_wp2_with fail
    refine (NI.out w2 HB.out).mono ?_
    rintro e w3 ⟨a3, c3, rfl, hh⟩
    have HH := Lib.hid hh
    clear hh
    go_wp2_with fail
    go_ret
    exact NewHits.later ⟨a3, c3, rfl, HH.out⟩ HB.out
end Go.Proofs.Ytlammenejgagdaa
