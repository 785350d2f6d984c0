/-
  ProbeOrder, the program's and the reference's.
-/
import Derived.Test.YtmpoljhdcgdnnaaProbeWalks
import Derived.Test.YtmpoljhdcgdnnaaProbesWalks
namespace Go.Proofs.Ytmpoljhdcgdnnaa
open Go.RowKit
set_option linter.unusedVariables false

/-- what ProbeOrder answers -/
def prbB (cs : List (List Int)) (m : List Int) (k : Int) : Bool := cenB cs 4 && (vecB m 4 && inR k 1 4)
def prbV (cs : List (List Int)) (m : List Int) (k : Int) : List Int := if prbB cs m k then prbL cs m k.toNat else []
theorem prbV_yes {cs : List (List Int)} {m : List Int} {k : Int} (h1 : cenB cs 4 = true) (h2 : vecB m 4 = true) (h3 : 1 ≤ k ∧ k ≤ 4) : prbV cs m k = prbL cs m k.toNat := by
  unfold prbV prbB; rw [h1, h2, inR_true h3]; rfl
theorem prbV_no1 {cs : List (List Int)} {m : List Int} {k : Int} (h1 : cenB cs 4 = false) : prbV cs m k = [] := by
  unfold prbV prbB; rw [h1]; rfl
theorem prbV_no2 {cs : List (List Int)} {m : List Int} {k : Int} (h2 : vecB m 4 = false) : prbV cs m k = [] := by
  unfold prbV prbB; rw [h2]; simp
theorem prbV_no3 {cs : List (List Int)} {m : List Int} {k : Int} (h3 : ¬ (1 ≤ k ∧ k ≤ 4)) : prbV cs m k = [] := by
  unfold prbV prbB; rw [inR_false h3]; simp
theorem prbL_bd (cs : List (List Int)) (m : List Int) (k : Nat) : ∀ x ∈ prbL cs m k, 0 ≤ x ∧ x < cs.length := fun x hx => by
  obtain ⟨i, hi, rfl⟩ := List.getElem_of_mem hx
  obtain ⟨j, h1, h2, _⟩ := prbL_get hi
  rw [List.getD_eq_getElem?_getD, List.getElem?_eq_getElem hi] at h2
  simp only [Option.getD_some] at h2
  omega
theorem prbV_ne {cs : List (List Int)} {m : List Int} {k : Int} (h : (prbV cs m k).length ≠ 0) : cenB cs 4 = true ∧ vecB m 4 = true ∧ (1 ≤ k ∧ k ≤ 4) := by
  refine ⟨?_, ?_, ?_⟩
  · cases h1 : cenB cs 4
    · rw [prbV_no1 h1] at h; exact absurd rfl h
    · rfl
  · cases h1 : vecB m 4
    · rw [prbV_no2 h1] at h; exact absurd rfl h
    · rfl
  · by_cases h1 : 1 ≤ k ∧ k ≤ 4
    · exact h1
    · rw [prbV_no3 h1] at h; exact absurd rfl h
/-- what the law asks of a ProbeOrder that is not empty -/
def PrbLaw (cs : List (List Int)) (m : List Int) (k : Int) (L : List Int) : Prop :=
  (∀ i, i < L.length → ∃ a : Nat, a < cs.length ∧ L.getD i 0 = (a : Int)) ∧
  (∀ i a b : Nat, i + 1 < L.length → L.getD i 0 = (a : Int) → L.getD (i + 1) 0 = (b : Int) → dst 3 (cs.getD a []) m 4 < dst 3 (cs.getD b []) m 4 ∨ (dst 3 (cs.getD a []) m 4 = dst 3 (cs.getD b []) m 4 ∧ a < b)) ∧
  L.getD 0 0 = centreV cs m ∧ 0 < L.length ∧ (L.length : Int) = min k (cs.length : Int)
theorem prbV_law {cs : List (List Int)} {m : List Int} {k : Int} (h : (prbV cs m k).length ≠ 0) : PrbLaw cs m k (prbV cs m k) := by
  obtain ⟨h1, h2, h3⟩ := prbV_ne h
  have e := prbV_yes h1 h2 h3
  rw [e] at h ⊢
  refine ⟨fun i hi => ?_, fun i a b hi ha hb => prbL_asc hi ha hb, ?_, by omega, ?_⟩
  · obtain ⟨j, q1, q2, _⟩ := prbL_get hi
    exact ⟨j, q1, q2⟩
  · rw [prbL_first h1 (by omega), centreV_yes h1 h2]
  · rw [prbL_length]; omega
theorem prbV_more {cs : List (List Int)} {m : List Int} {k : Int} (h : (prbV cs m k).length ≠ 0) (h4 : k ≠ 4) : (prbV cs m k).length ≤ (prbV cs m (k + 1)).length ∧ (prbV cs m (k + 1)).take (prbV cs m k).length = prbV cs m k := by
  obtain ⟨h1, h2, h3⟩ := prbV_ne h
  rw [prbV_yes h1 h2 h3, prbV_yes h1 h2 (by omega), show (k + 1).toNat = k.toNat + 1 by omega]
  exact ⟨by rw [prbL_length, prbL_length]; omega, prbL_more _ _ _⟩
theorem prbV_ok (cs : List (List Int)) (m : List Int) (k : Int) : (∀ x ∈ prbV cs m k, -9223372036854775808 ≤ x ∧ x ≤ 9223372036854775807) ∧ (prbV cs m k).length ≤ 9223372036854775807 ∧ (prbV cs m k).length ≤ 1048576 := by
  unfold prbV
  cases h : prbB cs m k
  · simp
  · unfold prbB at h
    simp only [Bool.and_eq_true] at h
    have h4 := (cenB_len h.1).2
    rw [if_pos rfl]
    refine ⟨fun x hx => ?_, ?_, ?_⟩
    · have := prbL_bd _ _ _ x hx; omega
    · rw [prbL_length]; omega
    · rw [prbL_length]; omega
theorem Ints.all {w : World} {lo hi : Nat} {a : Option Addr} {l : List Int} (h : Ints w lo hi a l) : Ints w 0 w.heap.size a l := by
  refine ⟨fun hne => ?_, h.len, h.ok⟩
  obtain ⟨b, off, ha, _, _, h3⟩ := h.cells hne
  exact ⟨b, off, ha, Nat.zero_le _, World.block_lt_of_cell? w _ (h3 0 (List.length_pos_iff.2 hne)), h3⟩
theorem Lists.all {w : World} {lo hi : Nat} {a : Option Addr} {ll : List (List Int)} (h : Lists w lo hi a ll) : Lists w 0 w.heap.size a ll := by
  refine ⟨fun hne => ?_, h.len⟩
  obtain ⟨b, off, ha, _, _, h3⟩ := h.cells hne
  obtain ⟨aj, cj, h4, _⟩ := h3 0 (List.length_pos_iff.2 hne)
  refine ⟨b, off, ha, Nat.zero_le _, World.block_lt_of_cell? w _ h4, fun j hj => ?_⟩
  obtain ⟨aj, cj, h4, h5⟩ := h3 j hj
  exact ⟨aj, cj, h4, h5.all⟩
set_option maxHeartbeats 1000000 in
theorem implProbe_new (w : World) (lo hi lo' hi' : Nat) (a b : Option Addr) (cap capm : Nat) (k : Int) (cs : List (List Int)) (m : List Int) (hA : Lists w lo hi a cs) (hB : Ints w lo' hi' b m) :
    Calls Try.prog 33 #[.slice a cs.length cap, .slice b m.length capm, .int .i64 k] w (NewInts w (prbV cs m k)) := by
  cases hv : cenB cs 4
  · rw [prbV_no1 hv]
    go_enter Try.func33, Try.ntmps33
    go_wp2_with fail
    refine (areVectors_any _ _ _ _ _ _ 4 hA).mono ?_
    rintro e w2 ⟨rfl, rfl⟩
    go_wp2_with fail
    go_ret
    exact NewInts.nil (Below.refl _ _)
  · cases hm : vecB m 4
    · rw [prbV_no2 hm]
      go_enter Try.func33, Try.ntmps33
      go_wp2_with fail
      refine (areVectors_any _ _ _ _ _ _ 4 hA).mono ?_
      rintro e w2 ⟨rfl, rfl⟩
      go_wp2_with fail
      refine (implIsVector _ _ _ _ _ _ 4 hB).mono ?_
      rintro e w2 ⟨rfl, rfl⟩
      go_wp2_with fail
      go_ret
      exact NewInts.nil (Below.refl _ _)
    · have HM := Lib.hid hm
      have HVV := Lib.hid hv
      by_cases h1 : k < 1
      · rw [prbV_no3 (by omega)]
        go_enter Try.func33, Try.ntmps33
        go_wp2_with fail
        refine (areVectors_any _ _ _ _ _ _ 4 hA).mono ?_
        rintro e w2 ⟨rfl, rfl⟩
        go_wp2_with fail
        refine (implIsVector _ _ _ _ _ _ 4 hB).mono ?_
        rintro e w2 ⟨rfl, rfl⟩
        go_wp2_with fail
        go_ret
        exact NewInts.nil (Below.refl _ _)
      · have d1 : decide (k < 1) = false := decide_eq_false h1
        by_cases h2 : 4 < k
        · rw [prbV_no3 (by omega)]
          go_enter Try.func33, Try.ntmps33
          go_wp2_with fail
          refine (areVectors_any _ _ _ _ _ _ 4 hA).mono ?_
          rintro e w2 ⟨rfl, rfl⟩
          go_wp2_with fail
          refine (implIsVector _ _ _ _ _ _ 4 hB).mono ?_
          rintro e w2 ⟨rfl, rfl⟩
          go_wp2_with fail
          go_ret
          exact NewInts.nil (Below.refl _ _)
        · have d2 : decide (4 < k) = false := decide_eq_false h2
          rw [prbV_yes hv hm (by omega)]
          obtain ⟨n, rfl⟩ : ∃ n : Nat, k = (n : Int) := ⟨k.toNat, by omega⟩
          rw [Int.toNat_natCast]
          have PI := Lib.hid (implProbeIn w _ _ _ _ a b cap capm n cs m hA.all hB.all (Nat.le_refl _) (Nat.le_refl _) hv hm (by omega) (by omega))
          go_enter Try.func33, Try.ntmps33
          go_wp2_with fail
          refine (areVectors_any _ _ _ _ _ _ 4 hA).mono ?_
          rintro e w2 ⟨rfl, rfl⟩
          go_wp2_with fail
          refine (implIsVector _ _ _ _ _ _ 4 hB).mono ?_
          rintro e w2 ⟨rfl, rfl⟩
          go_wp2_with fail
          refine PI.out.mono ?_
          rintro e w3 ⟨g, c, rfl, ho, hb⟩
          have HF := Lib.hid (And.intro ho hb)
          clear ho hb
          go_wp2_with fail
          go_ret
          exact ⟨g, c, rfl, HF.out⟩
set_option maxHeartbeats 1000000 in
theorem specProbe_new (w : World) (lo hi lo' hi' : Nat) (a b : Option Addr) (cap capm : Nat) (k : Int) (cs : List (List Int)) (m : List Int) (hA : Lists w lo hi a cs) (hB : Ints w lo' hi' b m) :
    Calls Try.prog 32 #[.slice a cs.length cap, .slice b m.length capm, .int .i64 k] w (NewInts w (prbV cs m k)) := by
  cases hv : cenB cs 4
  · rw [prbV_no1 hv]
    go_enter Try.func32, Try.ntmps32
    go_wp2_with fail
    refine (validCentres_any _ _ _ _ _ _ hA).mono ?_
    rintro e w2 ⟨rfl, rfl⟩
    go_wp2_with fail
    go_ret
    exact NewInts.nil (Below.refl _ _)
  · cases hm : vecB m 4
    · rw [prbV_no2 hm]
      go_enter Try.func32, Try.ntmps32
      go_wp2_with fail
      refine (validCentres_any _ _ _ _ _ _ hA).mono ?_
      rintro e w2 ⟨rfl, rfl⟩
      go_wp2_with fail
      refine (specIsVector _ _ _ _ _ _ hB).mono ?_
      rintro e w2 ⟨rfl, rfl⟩
      go_wp2_with fail
      go_ret
      exact NewInts.nil (Below.refl _ _)
    · by_cases h3 : 1 ≤ k ∧ k ≤ 4
      · rw [prbV_yes hv hm h3]
        have HR := inR_true h3
        obtain ⟨n, rfl⟩ : ∃ n : Nat, k = (n : Int) := ⟨k.toNat, by omega⟩
        rw [Int.toNat_natCast]
        have PI := Lib.hid (probes_any w _ _ _ _ a b cap capm n cs m hA hB hv hm (by omega) (by omega))
        clear h3
        go_enter Try.func32, Try.ntmps32
        go_wp2_with fail
        refine (validCentres_any _ _ _ _ _ _ hA).mono ?_
        rintro e w2 ⟨rfl, rfl⟩
        go_wp2_with fail
        refine (specIsVector _ _ _ _ _ _ hB).mono ?_
        rintro e w2 ⟨rfl, rfl⟩
        go_wp2_with fail
        refine (inRange_any _ _ _ _).mono ?_
        rintro e w2 ⟨rfl, rfl⟩
        go_wp2_with fail
        refine PI.out.mono ?_
        rintro e w3 ⟨g, c, rfl, ho, hb⟩
        have HF := Lib.hid (And.intro ho hb)
        clear ho hb
        go_wp2_with fail
        go_ret
        exact ⟨g, c, rfl, HF.out⟩
      · rw [prbV_no3 h3]
        have HR := inR_false h3
        clear h3
        go_enter Try.func32, Try.ntmps32
        go_wp2_with fail
        refine (validCentres_any _ _ _ _ _ _ hA).mono ?_
        rintro e w2 ⟨rfl, rfl⟩
        go_wp2_with fail
        refine (specIsVector _ _ _ _ _ _ hB).mono ?_
        rintro e w2 ⟨rfl, rfl⟩
        go_wp2_with fail
        refine (inRange_any _ _ _ _).mono ?_
        rintro e w2 ⟨rfl, rfl⟩
        go_wp2_with fail
        go_ret
        exact NewInts.nil (Below.refl _ _)
theorem implProbe_read (w : World) (lo hi lo' hi' : Nat) (a b : Option Addr) (cap capm : Nat) (k : Int) (cs : List (List Int)) (m : List Int) (hA : Lists w lo hi a cs) (hB : Ints w lo' hi' b m) :
    Calls Try.prog 33 #[.slice a cs.length cap, .slice b m.length capm, .int .i64 k] w (ReadInts w (prbV cs m k)) :=
  (implProbe_new w lo hi lo' hi' a b cap capm k cs m hA hB).mono fun e w' h => h.read (prbV_ok cs m k).1 (prbV_ok cs m k).2.1
theorem specProbe_read (w : World) (lo hi lo' hi' : Nat) (a b : Option Addr) (cap capm : Nat) (k : Int) (cs : List (List Int)) (m : List Int) (hA : Lists w lo hi a cs) (hB : Ints w lo' hi' b m) :
    Calls Try.prog 32 #[.slice a cs.length cap, .slice b m.length capm, .int .i64 k] w (ReadInts w (prbV cs m k)) :=
  (specProbe_new w lo hi lo' hi' a b cap capm k cs m hA hB).mono fun e w' h => h.read (prbV_ok cs m k).1 (prbV_ok cs m k).2.1
end Go.Proofs.Ytmpoljhdcgdnnaa
