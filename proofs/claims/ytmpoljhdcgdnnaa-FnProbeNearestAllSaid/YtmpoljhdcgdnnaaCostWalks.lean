/-
  ProbeCost and ProbeNearest, the program's and the reference's.
-/
import Derived.Test.YtmpoljhdcgdnnaaProbedWalks
namespace Go.Proofs.Ytmpoljhdcgdnnaa
open Go.RowKit
set_option linter.unusedVariables false

/-- what the searches of inverted lists ask of their arguments -/
def costB (cs : List (List Int)) (ll : List It) (m : List Int) (n : Int) : Bool := cenB cs 4 && (inR n 1 4 && qryB ll 3 m)
/-- .. with a number of items -/
def pnB (cs : List (List Int)) (ll : List It) (m : List Int) (n k : Int) : Bool := costB cs ll m n && inR k 1 16
theorem costB_cen {cs : List (List Int)} {ll : List It} {m : List Int} {n : Int} (h : costB cs ll m n = true) : cenB cs 4 = true := by
  unfold costB at h; simp only [Bool.and_eq_true] at h; exact h.1
theorem costB_num {cs : List (List Int)} {ll : List It} {m : List Int} {n : Int} (h : costB cs ll m n = true) : 1 ≤ n ∧ n ≤ 4 := by
  unfold costB inR at h; simp only [Bool.and_eq_true, decide_eq_true_eq] at h; exact h.2.1
theorem costB_qry {cs : List (List Int)} {ll : List It} {m : List Int} {n : Int} (h : costB cs ll m n = true) : qryB ll 3 m = true := by
  unfold costB at h; simp only [Bool.and_eq_true] at h; exact h.2.2
theorem costB_mk {cs : List (List Int)} {ll : List It} {m : List Int} {n : Int} (h1 : cenB cs 4 = true) (h2 : 1 ≤ n ∧ n ≤ 4) (h3 : qryB ll 3 m = true) : costB cs ll m n = true := by
  unfold costB; rw [h1, inR_true h2, h3]; rfl
theorem pnB_cost {cs : List (List Int)} {ll : List It} {m : List Int} {n k : Int} (h : pnB cs ll m n k = true) : costB cs ll m n = true := by
  unfold pnB at h; simp only [Bool.and_eq_true] at h; exact h.1
theorem pnB_num {cs : List (List Int)} {ll : List It} {m : List Int} {n k : Int} (h : pnB cs ll m n k = true) : 1 ≤ k ∧ k ≤ 16 := by
  unfold pnB inR at h; simp only [Bool.and_eq_true, decide_eq_true_eq] at h; exact h.2
theorem pnB_mk {cs : List (List Int)} {ll : List It} {m : List Int} {n k : Int} (h1 : costB cs ll m n = true) (h2 : 1 ≤ k ∧ k ≤ 16) : pnB cs ll m n k = true := by
  unfold pnB; rw [h1, inR_true h2]; rfl
/-- what ProbeCost answers -/
def costV (cs : List (List Int)) (ll : List It) (m : List Int) (n : Int) : Int := if costB cs ll m n then (cs.length : Int) + ((prdI cs m n.toNat ll).length : Int) else -1
theorem costV_yes {cs : List (List Int)} {ll : List It} {m : List Int} {n : Int} (h : costB cs ll m n = true) : costV cs ll m n = (cs.length : Int) + ((prdI cs m n.toNat ll).length : Int) := by unfold costV; rw [h]; rfl
theorem costV_no {cs : List (List Int)} {ll : List It} {m : List Int} {n : Int} (h : costB cs ll m n = false) : costV cs ll m n = -1 := by unfold costV; rw [h]; rfl
/-- what ProbeNearest answers -/
def pnV (cs : List (List Int)) (ll : List It) (m : List Int) (n k : Int) : List Ht := if pnB cs ll m n k then nrI 3 m (prdI cs m n.toNat ll) k.toNat else []
theorem pnV_yes {cs : List (List Int)} {ll : List It} {m : List Int} {n k : Int} (h : pnB cs ll m n k = true) : pnV cs ll m n k = nrI 3 m (prdI cs m n.toNat ll) k.toNat := by unfold pnV; rw [h]; rfl
theorem pnV_no {cs : List (List Int)} {ll : List It} {m : List Int} {n k : Int} (h : pnB cs ll m n k = false) : pnV cs ll m n k = [] := by unfold pnV; rw [h]; rfl
theorem pnV_len (cs : List (List Int)) (ll : List It) (m : List Int) (n k : Int) : (pnV cs ll m n k).length ≤ 1048576 := by
  cases h : pnB cs ll m n k
  · rw [pnV_no h]; simp
  · rw [pnV_yes h, nrI_length]
    have h1 := selI_le cs (prbL cs m n.toNat) ll
    have h2 := storeB_len (qryB_store (costB_qry (pnB_cost h)))
    have h3 : (prdI cs m n.toNat ll).length ≤ ll.length := h1
    omega
theorem findB_one {ll : List It} {m : List Int} : findB ll 3 m 1 = qryB ll 3 m := by unfold findB; rw [inR_true (by omega)]; simp
set_option maxHeartbeats 1000000 in
theorem implCost_no (w : World) (lo hi lo' hi' l3 h3 : Nat) (a b p : Option Addr) (cap cap' capm : Nat) (n : Int) (cs : List (List Int)) (ll : List It) (m : List Int) (hA : Lists w lo hi a cs) (hI : Items w lo' hi' b ll) (hM : Ints w l3 h3 p m) (hv : costB cs ll m n = false) :
    Calls Try.prog 40 #[.slice a cs.length cap, .slice b ll.length cap', .slice p m.length capm, .int .i64 n] w fun e w' => e = .returned (.int .i64 (-1)) ∧ Below w.heap.size w w' := by
  cases h1 : cenB cs 4
  · go_enter Try.func40, Try.ntmps40
    go_wp2_with fail
    refine (areVectors_any _ _ _ _ _ _ 4 hA).mono ?_
    rintro e w2 ⟨rfl, rfl⟩
    go_wp2_with fail
    go_ret
    exact ⟨rfl, Below.refl _ _⟩
  · by_cases h2 : n < 1
    · go_enter Try.func40, Try.ntmps40
      go_wp2_with fail
      refine (areVectors_any _ _ _ _ _ _ 4 hA).mono ?_
      rintro e w2 ⟨rfl, rfl⟩
      go_wp2_with fail
      go_ret
      exact ⟨rfl, Below.refl _ _⟩
    · have d1 : decide (n < 1) = false := decide_eq_false h2
      by_cases h3 : 4 < n
      · go_enter Try.func40, Try.ntmps40
        go_wp2_with fail
        refine (areVectors_any _ _ _ _ _ _ 4 hA).mono ?_
        rintro e w2 ⟨rfl, rfl⟩
        go_wp2_with fail
        go_ret
        exact ⟨rfl, Below.refl _ _⟩
      · have d2 : decide (4 < n) = false := decide_eq_false h3
        have CF := Lib.hid (canFind_any w _ _ _ _ b p cap' capm 3 1 ll m hI hM)
        have hq : findB ll 3 m 1 = false := (by
          rw [findB_one]
          cases hq : qryB ll 3 m
          · rfl
          · rw [costB_mk h1 (by omega) hq] at hv; cases hv)
        rw [hq] at CF
        clear hq
        go_enter Try.func40, Try.ntmps40
        go_wp2_with fail
        refine (areVectors_any _ _ _ _ _ _ 4 hA).mono ?_
        rintro e w2 ⟨rfl, rfl⟩
        go_wp2_with fail
        refine CF.out.mono ?_
        rintro e w3 ⟨rfl, hb⟩
        have HB := Lib.hid hb
        clear hb
        go_wp2_with fail
        go_ret
        exact ⟨rfl, HB.out⟩
set_option maxHeartbeats 1000000 in
theorem implCost_yes (w : World) (lo hi lo' hi' l3 h3 : Nat) (a b p : Option Addr) (cap cap' capm n : Nat) (cs : List (List Int)) (ll : List It) (m : List Int) (hA : Lists w lo hi a cs) (hI : Items w lo' hi' b ll) (hM : Ints w l3 h3 p m) (hv : costB cs ll m (n : Int) = true) :
    Calls Try.prog 40 #[.slice a cs.length cap, .slice b ll.length cap', .slice p m.length capm, .int .i64 (n : Int)] w fun e w' => e = .returned (.int .i64 ((cs.length : Int) + ((prdI cs m n ll).length : Int))) ∧ Below w.heap.size w w' := by
  have h1 := costB_cen hv
  have hn := costB_num hv
  have hq := costB_qry hv
  have hl4 := (cenB_len h1).2
  have hl16 := storeB_len (qryB_store hq)
  have CF := Lib.hid (canFind_any w _ _ _ _ b p cap' capm 3 1 ll m hI hM)
  rw [findB_one, hq] at CF
  have PR := Lib.hid fun w2 (hb : Below w.heap.size w w2) => probed_any w2 _ _ _ _ _ _ a b p cap cap' capm n cs ll m (hA.below hb) (hI.below hb) (hM.below hb) h1 (qryB_store hq) (qryB_vec hq) (by omega) (by omega)
  have d1 : decide ((n : Int) < 1) = false := decide_eq_false (by omega)
  have d2 : decide ((4 : Int) < (n : Int)) = false := decide_eq_false (by omega)
  have hpl : (prdI cs m n ll).length ≤ ll.length := selI_le _ _ _
  obtain ⟨P, eP⟩ : ∃ P, prdI cs m n ll = P := ⟨_, rfl⟩
  rw [eP] at PR hpl ⊢
  have hlen : ll.length ≤ 16 := hl16
  clear hq hv eP
  go_enter Try.func40, Try.ntmps40
  go_wp2_with fail
  refine (areVectors_any _ _ _ _ _ _ 4 hA).mono ?_
  rintro e w2 ⟨rfl, rfl⟩
  go_wp2_with fail
  refine CF.out.mono ?_
  rintro e w3 ⟨rfl, hb⟩
  have HB := Lib.hid hb
  clear hb
  go_wp2_with fail
  refine (PR.out w3 HB.out).mono ?_
  rintro e w4 ⟨a4, c4, rfl, h4, h5, h6⟩
  have HB4 : Hid (Below w.heap.size w w4) := Lib.hid (HB.out.trans (h6.mono HB.out.size))
  have q1 := h5.1
  have q2 := h5.2
  clear h4 h5 h6
  go_wp2_with fail
  go_ret
  exact ⟨rfl, HB4.out⟩
theorem implCost (w : World) (lo hi lo' hi' l3 h3 : Nat) (a b p : Option Addr) (cap cap' capm : Nat) (n : Int) (cs : List (List Int)) (ll : List It) (m : List Int) (hA : Lists w lo hi a cs) (hI : Items w lo' hi' b ll) (hM : Ints w l3 h3 p m) :
    Calls Try.prog 40 #[.slice a cs.length cap, .slice b ll.length cap', .slice p m.length capm, .int .i64 n] w fun e w' => e = .returned (.int .i64 (costV cs ll m n)) ∧ Below w.heap.size w w' := by
  cases hv : costB cs ll m n
  · rw [costV_no hv]
    exact implCost_no w lo hi lo' hi' l3 h3 a b p cap cap' capm n cs ll m hA hI hM hv
  · rw [costV_yes hv]
    have hn := costB_num hv
    obtain ⟨q, rfl⟩ : ∃ q : Nat, n = (q : Int) := ⟨n.toNat, by omega⟩
    rw [Int.toNat_natCast]
    exact implCost_yes w lo hi lo' hi' l3 h3 a b p cap cap' capm q cs ll m hA hI hM hv
set_option maxHeartbeats 1000000 in
theorem implPN_no (w : World) (lo hi lo' hi' l3 h3 : Nat) (a b p : Option Addr) (cap cap' capm : Nat) (n k : Int) (cs : List (List Int)) (ll : List It) (m : List Int) (hA : Lists w lo hi a cs) (hI : Items w lo' hi' b ll) (hM : Ints w l3 h3 p m) (hv : pnB cs ll m n k = false) :
    Calls Try.prog 13 #[.slice a cs.length cap, .slice b ll.length cap', .slice p m.length capm, .int .i64 n, .int .i64 k] w (NewHits w []) := by
  cases h1 : cenB cs 4
  · go_enter Try.func13, Try.ntmps13
    go_wp2_with fail
    refine (areVectors_any _ _ _ _ _ _ 4 hA).mono ?_
    rintro e w2 ⟨rfl, rfl⟩
    go_wp2_with fail
    go_ret
    exact NewHits.nil (Below.refl _ _)
  · by_cases h2 : n < 1
    · go_enter Try.func13, Try.ntmps13
      go_wp2_with fail
      refine (areVectors_any _ _ _ _ _ _ 4 hA).mono ?_
      rintro e w2 ⟨rfl, rfl⟩
      go_wp2_with fail
      go_ret
      exact NewHits.nil (Below.refl _ _)
    · have d1 : decide (n < 1) = false := decide_eq_false h2
      by_cases h3 : 4 < n
      · go_enter Try.func13, Try.ntmps13
        go_wp2_with fail
        refine (areVectors_any _ _ _ _ _ _ 4 hA).mono ?_
        rintro e w2 ⟨rfl, rfl⟩
        go_wp2_with fail
        go_ret
        exact NewHits.nil (Below.refl _ _)
      · have d2 : decide (4 < n) = false := decide_eq_false h3
        have CF := Lib.hid (canFind_any w _ _ _ _ b p cap' capm 3 k ll m hI hM)
        have hq : findB ll 3 m k = false := (by
          cases hq : findB ll 3 m k
          · rfl
          · rw [pnB_mk (costB_mk h1 (by omega) (findB_qry hq)) (findB_num hq)] at hv; cases hv)
        rw [hq] at CF
        clear hq
        go_enter Try.func13, Try.ntmps13
        go_wp2_with fail
        refine (areVectors_any _ _ _ _ _ _ 4 hA).mono ?_
        rintro e w2 ⟨rfl, rfl⟩
        go_wp2_with fail
        refine CF.out.mono ?_
        rintro e w3 ⟨rfl, hb⟩
        have HB := Lib.hid hb
        clear hb
        go_wp2_with fail
        go_ret
        exact NewHits.nil HB.out
set_option maxHeartbeats 1000000 in
theorem implPN_yes (w : World) (lo hi lo' hi' l3 h3 : Nat) (a b p : Option Addr) (cap cap' capm n k : Nat) (cs : List (List Int)) (ll : List It) (m : List Int) (hA : Lists w lo hi a cs) (hI : Items w lo' hi' b ll) (hM : Ints w l3 h3 p m) (hv : pnB cs ll m (n : Int) (k : Int) = true) :
    Calls Try.prog 13 #[.slice a cs.length cap, .slice b ll.length cap', .slice p m.length capm, .int .i64 (n : Int), .int .i64 (k : Int)] w (NewHits w (nrI 3 m (prdI cs m n ll) k)) := by
  have hc := pnB_cost hv
  have hk := pnB_num hv
  have h1 := costB_cen hc
  have hn := costB_num hc
  have hq := costB_qry hc
  have hs := qryB_store hq
  have hl16 := storeB_len hs
  have CF := Lib.hid (canFind_any w _ _ _ _ b p cap' capm 3 (k : Int) ll m hI hM)
  rw [findB_mk hq hk] at CF
  have PR := Lib.hid fun w2 (hb : Below w.heap.size w w2) => probed_any w2 _ _ _ _ _ _ a b p cap cap' capm n cs ll m (hA.below hb) (hI.below hb) (hM.below hb) h1 (qryB_store hq) (qryB_vec hq) (by omega) (by omega)
  have d1 : decide ((n : Int) < 1) = false := decide_eq_false (by omega)
  have d2 : decide ((4 : Int) < (n : Int)) = false := decide_eq_false (by omega)
  have hpl : (prdI cs m n ll).length ≤ ll.length := selI_le _ _ _
  have NI := Lib.hid fun (w2 : World) a4 c4 (hb : Below w.heap.size w w2) (hi4 : Items w2 0 w2.heap.size a4 (prdI cs m n ll)) => implNearest_in w2 _ _ _ _ a4 p c4 capm k 3 _ m hi4 (hM.below hb) (selI_vec hs) (qryB_vec hq) (by omega) (by omega) (selI_asc (storeB_AscI hs)).nodup
  obtain ⟨P, eP⟩ : ∃ P, prdI cs m n ll = P := ⟨_, rfl⟩
  rw [eP] at PR hpl NI ⊢
  have hlen : ll.length ≤ 16 := hl16
  clear hq hv eP hc hs
  go_enter Try.func13, Try.ntmps13
  go_wp2_with fail
  refine (areVectors_any _ _ _ _ _ _ 4 hA).mono ?_
  rintro e w2 ⟨rfl, rfl⟩
  go_wp2_with fail
  refine CF.out.mono ?_
  rintro e w3 ⟨rfl, hb⟩
  have HB := Lib.hid hb
  clear hb
  go_wp2_with fail
  refine (PR.out w3 HB.out).mono ?_
  rintro e w4 ⟨a4, c4, rfl, h4, h5, h6⟩
  have HB4 : Hid (Below w.heap.size w w4) := Lib.hid (HB.out.trans (h6.mono HB.out.size))
  have N4 := Lib.hid (NI.out w4 a4 c4 HB4.out h4)
  clear h4 h5 h6
  go_wp2_with fail
  refine N4.out.mono ?_
  rintro e w5 ⟨a5, c5, rfl, h5⟩
  have H5 := Lib.hid h5
  clear h5
  go_wp2_with fail
  go_ret
  exact NewHits.later ⟨a5, c5, rfl, H5.out⟩ HB4.out
theorem implPN (w : World) (lo hi lo' hi' l3 h3 : Nat) (a b p : Option Addr) (cap cap' capm : Nat) (n k : Int) (cs : List (List Int)) (ll : List It) (m : List Int) (hA : Lists w lo hi a cs) (hI : Items w lo' hi' b ll) (hM : Ints w l3 h3 p m) :
    Calls Try.prog 13 #[.slice a cs.length cap, .slice b ll.length cap', .slice p m.length capm, .int .i64 n, .int .i64 k] w (NewHits w (pnV cs ll m n k)) := by
  cases hv : pnB cs ll m n k
  · rw [pnV_no hv]
    exact implPN_no w lo hi lo' hi' l3 h3 a b p cap cap' capm n k cs ll m hA hI hM hv
  · rw [pnV_yes hv]
    have hn := costB_num (pnB_cost hv)
    have hk := pnB_num hv
    obtain ⟨q, rfl⟩ : ∃ q : Nat, n = (q : Int) := ⟨n.toNat, by omega⟩
    obtain ⟨z, rfl⟩ : ∃ z : Nat, k = (z : Int) := ⟨k.toNat, by omega⟩
    rw [Int.toNat_natCast, Int.toNat_natCast]
    exact implPN_yes w lo hi lo' hi' l3 h3 a b p cap cap' capm q z cs ll m hA hI hM hv
end Go.Proofs.Ytmpoljhdcgdnnaa
