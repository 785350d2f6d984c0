/-
  How the exact laws mark slices of slices that the call has made, and look whether the marks hold.
-/
import Derived.Test.YtfgjmfnbpbanmaaRowsOwn
import Derived.Test.YtfgjmfnbpbanmaaMarkWalks
namespace Go.Proofs.Ytfgjmfnbpbanmaa
open Go.RowKit
set_option linter.unusedVariables false

/-- how many numbers the first j lists hold -/
def offs (ll : List (List Int)) : Nat → Nat
  | 0 => 0
  | j + 1 => offs ll j + (ll.getD j []).length
theorem offs_succ (ll : List (List Int)) (j : Nat) : offs ll (j + 1) = offs ll j + (ll.getD j []).length := rfl
theorem offs_le {ll : List (List Int)} (h : LOk ll) {j : Nat} (hj : j ≤ ll.length) : offs ll j ≤ 1048576 * j := by
  induction j with
  | zero => exact Nat.le_refl _
  | succ j ih =>
    have h1 := ih (by omega)
    have h2 := (h.2 j (by omega)).1
    rw [offs_succ]; omega
/-- the first j lists marked from k on -/
def mixL (k : Int) (ll : List (List Int)) (j : Nat) : List (List Int) := (List.range ll.length).map fun q => if q < j then upL (k + (offs ll q : Int)) (ll.getD q []).length else ll.getD q []
theorem mixL_length (k : Int) (ll : List (List Int)) (j : Nat) : (mixL k ll j).length = ll.length := by unfold mixL; simp
theorem mixL_get {k : Int} {ll : List (List Int)} {j q : Nat} (hq : q < ll.length) : (mixL k ll j).getD q [] = if q < j then upL (k + (offs ll q : Int)) (ll.getD q []).length else ll.getD q [] := by
  unfold mixL
  rw [List.getD_eq_getElem?_getD, List.getElem?_map, List.getElem?_range hq]
  rfl
theorem mixL_row {k : Int} {ll : List (List Int)} {j q : Nat} (hq : q < ll.length) : ((mixL k ll j).getD q []).length = (ll.getD q []).length := by
  rw [mixL_get hq]
  split
  · exact upL_length _ _
  · rfl
theorem mixL_zero (k : Int) (ll : List (List Int)) : mixL k ll 0 = ll := by
  refine List.ext_getElem? fun j => ?_
  unfold mixL
  by_cases hj : j < ll.length
  · rw [List.getElem?_map, List.getElem?_range hj, List.getElem?_eq_getElem hj]
    simp [List.getD_eq_getElem?_getD, List.getElem?_eq_getElem hj]
  · rw [List.getElem?_eq_none (by simp; omega), List.getElem?_eq_none (by omega)]
/-- all lists marked -/
def upLL (k : Int) (ll : List (List Int)) : List (List Int) := mixL k ll ll.length
theorem upLL_length (k : Int) (ll : List (List Int)) : (upLL k ll).length = ll.length := mixL_length _ _ _
theorem upLL_get {k : Int} {ll : List (List Int)} {q : Nat} (hq : q < ll.length) : (upLL k ll).getD q [] = upL (k + (offs ll q : Int)) (ll.getD q []).length := by
  unfold upLL; rw [mixL_get hq, if_pos hq]
/-- one row more is marked -/
theorem SSOf.step {B : Nat} {bs : Nat → Nat} {A : Nat → Option Addr} {C : Nat → Nat} {w w' : World} {lo hi x y j : Nat} {L L' : List (List Int)} (h : SSOf B bs A C w lo hi L) (u : Upd x y w w') (hl : L'.length = L.length) (hj : j < L.length)
    (hx : (L.getD j [] = [] ∧ x = 0 ∧ y = 0) ∨ (L.getD j [] ≠ [] ∧ x = bs j ∧ y = bs j + 1)) (hn : IntsO w' (bs j) (bs j + 1) (A j) (L'.getD j [])) (hr : ∀ q, (L'.getD q []).length = (L.getD q []).length) (hq : ∀ q, q ≠ j → L'.getD q [] = L.getD q []) : SSOf B bs A C w' lo hi L' := by
  have hz : ∀ q, L'.getD q [] ≠ [] → L.getD q [] ≠ [] := fun q hne e => hne (List.eq_nil_of_length_eq_zero (by rw [hr, e]; rfl))
  have hB := h.2.2 (by rintro rfl; simp at hj)
  refine ⟨fun q hq2 => ?_, fun i q hi hq2 hiq h1 h2 => h.2.1 i q (by omega) (by omega) hiq (hz i h1) (hz q h2), fun _ => hB⟩
  obtain ⟨k1, k2, k3⟩ := h.1 q (by omega)
  have hBx : B < x ∨ y ≤ B := by
    rcases hx with ⟨_, rfl, rfl⟩ | ⟨hne, rfl, rfl⟩
    · exact .inr (Nat.zero_le _)
    · have := ((h.1 j hj).2.2 hne).2.2; omega
  refine ⟨by rw [hr]; exact u.cell k1 hBx, ?_, fun hne => k3 (hz q hne)⟩
  by_cases e : q = j
  · subst e; exact hn
  · rw [hq q e]
    refine k2.any u fun hne => ?_
    rcases hx with ⟨_, rfl, rfl⟩ | ⟨hnj, rfl, rfl⟩
    · exact .inr (Nat.zero_le _)
    · have := h.2.1 q j (by omega) hj e hne hnj; omega
def MarkOPost (w : World) (lo hi : Nat) (a : Option Addr) (ll : List (List Int)) (k : Int) (e : Ending) (w' : World) : Prop :=
  e = .returned (.int .i64 (k + (offs ll ll.length : Int))) ∧ SSO w' lo hi a (upLL k ll) ∧ Upd lo hi w w' ∧ w'.heap.size = w.heap.size
set_option maxHeartbeats 1000000 in
theorem markIntSS_own (w : World) (lo hi : Nat) (a : Option Addr) (cap : Nat) (ll : List (List Int)) (k : Int) (h : SSO w lo hi a ll) (hk : LOk ll) (k0 : 0 ≤ k) (k1 : k ≤ 1152921504606846976) :
    Calls Try.prog 17 #[.slice a ll.length cap, .int .i64 k] w (MarkOPost w lo hi a ll k) := by
  have hlen := hk.1
  have HK := Lib.hid hk
  obtain ⟨B, bs, A, C, ha, hs⟩ := h
  have HA := Lib.hid ha
  have HS : Hid (SSOf B bs A C w lo hi (mixL k ll 0)) := Lib.hid (by rw [mixL_zero]; exact hs)
  clear hs ha hk
  go_enter Try.func17, Try.ntmps17
  go_wp2_with fail
  go_loopw [1, 5] (fun v i wr => ∃ j : Nat, j ≤ ll.length ∧ i = .int .i64 (j : Int) ∧ v = .int .i64 (k + (offs ll j : Int)) ∧ Hid (SSOf B bs A C wr lo hi (mixL k ll j)) ∧ Hid (Upd lo hi w wr ∧ wr.heap.size = w.heap.size)) (fun _ i _ => ll.length - (intOf i).toNat)
  case atStart => exact ⟨0, Nat.zero_le _, rfl, by simp [offs], HS.out, Upd.refl _ _ _, rfl⟩
  case round =>
    obtain ⟨j, hj, rfl, rfl, HR, HU⟩ := hrel
    by_cases hlt : j < ll.length
    · have hoff := offs_le HK.out hj
      have hrw := (HK.out.2 j hlt)
      obtain ⟨q1, q2, q3⟩ := HR.out.1 j (by rw [mixL_length]; exact hlt)
      rw [mixL_get hlt, if_neg (by omega)] at q1 q2 q3
      have haddr := HA.out (by rintro rfl; simp at hlt)
      subst haddr
      obtain ⟨x, y, hI, hx⟩ : ∃ x y, Ints wr x y (A j) (ll.getD j []) ∧ (((ll.getD j [] = [] ∧ x = 0 ∧ y = 0) ∨ (ll.getD j [] ≠ [] ∧ x = bs j ∧ y = bs j + 1))) := by
        by_cases e : ll.getD j [] = []
        · exact ⟨0, 0, by rw [e]; exact Ints.nil _ _ _ _, .inl ⟨e, rfl, rfl⟩⟩
        · exact ⟨_, _, q2.1, .inr ⟨e, rfl, rfl⟩⟩
      have M := Lib.hid (markIntS_any wr x y (A j) (C j) (ll.getD j []) (k + (offs ll j : Int)) hI q2.2 (by have := hrw.1; omega) (by omega) (by omega))
      have HX := Lib.hid hx
      have hoj := Lib.hid (offs_succ ll j)
      have HQ := Lib.hid q3
      have hn1 := hrw.1
      obtain ⟨n, hn⟩ : ∃ n, (ll.getD j []).length = n := ⟨_, rfl⟩
      have HN := Lib.hid hn
      obtain ⟨o, ho⟩ : ∃ o, offs ll j = o := ⟨_, rfl⟩
      have HO := Lib.hid ho
      rw [hn] at q1 M hoj hn1
      rw [ho] at M hoj hoff ⊢
      have hji : (j : Int) < ll.length := by omega
      clear q2 q3 hI hx hrw hn ho
      go_wp2_with fail
      refine M.out.mono ?_
      rintro e w2 ⟨rfl, hi2, hb2, hu2, hs2⟩
      have HI2 := Lib.hid (And.intro hi2 hb2)
      have HU2 := Lib.hid (And.intro hu2 hs2)
      clear hi2 hb2 hu2 hs2 q1
      go_wp2_with fail
      go_roundw
      case rel =>
        have hst : SSOf B bs A C w2 lo hi (mixL k ll (j + 1)) := by
          refine HR.out.step HU2.out.1 (by rw [mixL_length, mixL_length]) (by rw [mixL_length]; exact hlt) (by rw [mixL_get hlt, if_neg (by omega)]; exact HX.out) ?_ (fun q => ?_) (fun q hq => ?_)
          · rw [mixL_get hlt, if_pos (by omega), HN.out, HO.out]
            rcases HX.out with ⟨e, _, _⟩ | ⟨_, rfl, rfl⟩
            · have hn0 : n = 0 := by rw [← HN.out, e]; rfl
              subst hn0
              exact intsO_nil _ _ _ _
            · exact HI2.out
          · by_cases hql : q < ll.length
            · rw [mixL_row hql, mixL_row hql]
            · rw [List.getD_eq_getElem?_getD, List.getElem?_eq_none (by rw [mixL_length]; omega), List.getD_eq_getElem?_getD, List.getElem?_eq_none (by rw [mixL_length]; omega)]
          · by_cases hql : q < ll.length
            · rw [mixL_get hql, mixL_get hql]
              by_cases hqj : q < j
              · rw [if_pos hqj, if_pos (by omega)]
              · rw [if_neg hqj, if_neg (by omega)]
            · rw [List.getD_eq_getElem?_getD, List.getElem?_eq_none (by rw [mixL_length]; omega), List.getD_eq_getElem?_getD, List.getElem?_eq_none (by rw [mixL_length]; omega)]
        have hup : Upd lo hi wr w2 := by
          rcases HX.out with ⟨e, rfl, rfl⟩ | ⟨hne, rfl, rfl⟩
          · exact ⟨HU2.out.1.os, HU2.out.1.tape, HU2.out.1.output, HU2.out.1.size, fun z hz hd => HU2.out.1.block z hz (.inr (Nat.zero_le _))⟩
          · have := HQ.out hne
            exact HU2.out.1.weak (by omega) (by omega)
        exact ⟨j + 1, by omega, by go_num, int_eq (by rw [hoj.out]; omega), hst, HU.out.1.trans hup, HU2.out.2.trans HU.out.2⟩
      case measure => simp [intOf]; omega
    · have hje : j = ll.length := by omega
      subst hje
      go_wp2_with fail
      go_ret
      exact ⟨rfl, ⟨B, bs, A, C, fun hne => HA.out (by rintro rfl; exact hne (List.eq_nil_of_length_eq_zero (upLL_length _ _))), HR.out⟩, HU.out⟩
set_option maxHeartbeats 1000000 in
theorem heldIntSS_any (w : World) (lo hi : Nat) (a : Option Addr) (cap : Nat) (ll : List (List Int)) (k : Int) (h : Lists w lo hi a (upLL k ll)) (hk : LOk ll) (k0 : 0 ≤ k) (k1 : k ≤ 1152921504606846976) :
    Calls Try.prog 19 #[.slice a ll.length cap, .int .i64 k] w fun e w' => e = .returned (.int .i64 (k + (offs ll ll.length : Int))) ∧ w = w' := by
  have hlen := hk.1
  have HK := Lib.hid hk
  clear hk
  go_enter Try.func19, Try.ntmps19
  go_wp2_with fail
  go_loop [1, 5] (fun v i => ∃ j : Nat, j ≤ ll.length ∧ i = .int .i64 (j : Int) ∧ v = .int .i64 (k + (offs ll j : Int))) (fun _ i => ll.length - (intOf i).toNat)
  case atStart => exact ⟨0, Nat.zero_le _, rfl, by simp [offs]⟩
  case round =>
    obtain ⟨j, hj, rfl, rfl⟩ := hrel
    by_cases hlt : j < ll.length
    · obtain ⟨b, off, aj, cj, rfl, _, _, hc, hi⟩ := h.at_ (k := j) (by rw [upLL_length]; exact hlt)
      rw [upLL_get hlt, upL_length] at hc
      rw [upLL_get hlt] at hi
      have hoff := offs_le HK.out hj
      have hn1 := (HK.out.2 j hlt).1
      have hoj := Lib.hid (offs_succ ll j)
      have M := Lib.hid (heldIntS_any w _ _ aj cj (ll.getD j []).length (k + (offs ll j : Int)) hi (by omega) (by omega) (by omega))
      obtain ⟨n, hn⟩ : ∃ n, (ll.getD j []).length = n := ⟨_, rfl⟩
      obtain ⟨o, ho⟩ : ∃ o, offs ll j = o := ⟨_, rfl⟩
      rw [hn] at hc M hoj hn1
      rw [ho] at M hoj hoff ⊢
      have hji : (j : Int) < ll.length := by omega
      have hps : decide (k + (o : Int) + (n : Int) < 0) = false := decide_eq_false (by omega)
      clear hi hn ho
      go_wp2_with fail
      refine M.out.mono ?_
      rintro e w2 ⟨rfl, rfl⟩
      go_wp2_with fail
      go_round
      case rel => exact ⟨j + 1, by omega, by go_num, int_eq (by rw [hoj.out]; omega)⟩
      case measure => simp [intOf]; omega
    · have hje : j = ll.length := by omega
      subst hje
      go_wp2_with fail
      go_ret
      exact ⟨rfl, rfl⟩
end Go.Proofs.Ytfgjmfnbpbanmaa
