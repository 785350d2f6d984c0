/-
  Whether two slices of vectors are the same, as the program's and the reference's settling ask it.
-/
import Derived.Test.YtfgjmfnbpbanmaaEqWalks
import Derived.Test.YtfgjmfnbpbanmaaDistWalks
import Derived.Test.YtfgjmfnbpbanmaaLists
namespace Go.Proofs.Ytfgjmfnbpbanmaa
open Go.RowKit
set_option linter.unusedVariables false

set_option maxHeartbeats 1000000 in
theorem slicesEqual (w : World) (lo hi lo' hi' : Nat) (a b : Option Addr) (cap cap' : Nat) (l m : List Int) (ha : Ints w lo hi a l) (hb : Ints w lo' hi' b m) :
    Calls Try.prog 52 #[.slice a l.length cap, .slice b m.length cap'] w fun e w' => e = .returned (.bool (eqL l m)) ∧ Drawn w w' := by
  have hml := hb.len
  have hll := ha.len
  by_cases hne : l.length = m.length
  · have HN := Lib.hid hne
    have hlm : l.length ≤ m.length := by omega
    have hn' : ((l.length : Int) != (m.length : Int)) = false := by simp; omega
    clear hne
    go_enter Try.func52, Try.ntmps52
    go_wp2
    go_loopw [13] (fun i wr => ∃ k : Nat, k ≤ l.length ∧ i = .int .i64 (k : Int) ∧ Hid (Drawn w wr) ∧ Hid (l.take k = m.take k)) (fun i _ => l.length - (intOf i).toNat)
    case atStart => exact ⟨0, Nat.zero_le _, rfl, Drawn.refl _, rfl⟩
    case round =>
      obtain ⟨k, hk, rfl, HD, HT⟩ := hrel
      replace ha := ha.drawn HD.out
      replace hb := hb.drawn HD.out
      by_cases hlt : k < l.length
      · obtain ⟨p, off, rfl, _, _, hc, _⟩ := ha.at_ hlt
        have hkm : k < m.length := Nat.lt_of_lt_of_le hlt hlm
        obtain ⟨p', off', rfl, _, _, hc', _⟩ := hb.at_ hkm
        have hy := Lib.hid (take_succ_eq 0 hlt hkm HT.out)
        have hn := Lib.hid (ne_of_getD (l := l) (m := m) (k := k) 0)
        obtain ⟨x, ex⟩ : ∃ x, l.getD k 0 = x := ⟨_, rfl⟩
        obtain ⟨y, ey⟩ : ∃ y, m.getD k 0 = y := ⟨_, rfl⟩
        rw [ex] at hc hy hn
        rw [ey] at hc' hy hn
        clear ex ey
        by_cases hxy : x = y
        · have hy' := Lib.hid (hy.out hxy)
          subst hxy
          clear hn hy
          go_wp2
          go_quiet (fail)
          go_wp2
          go_roundw
          case rel => exact ⟨k + 1, by omega, by go_num, HD.out.more _, hy'.out⟩
          case measure => simp [intOf]; omega
        · have hn' := Lib.hid (hn.out hxy)
          have hxy' : (x != y) = true := by simpa using hxy
          clear hn hy
          go_wp2
          go_quiet (fail)
          go_wp2
          go_ret
          exact ⟨ret_bool (decide_eq_false hn'.out).symm, HD.out.more _⟩
      · have he := Lib.hid (eq_of_takes (by omega) HN.out HT.out)
        go_wp2
        go_ret
        exact ⟨ret_bool (decide_eq_true he.out).symm, HD.out⟩
  · have HN := Lib.hid (show ¬ l = m from fun h => hne (by rw [h]))
    have hn' : ((l.length : Int) != (m.length : Int)) = true := by simp; omega
    go_enter Try.func52, Try.ntmps52
    go_wp2
    go_ret
    exact ⟨ret_bool (decide_eq_false HN.out).symm, Drawn.refl _⟩
set_option maxHeartbeats 1000000 in
theorem slicesEqualF (w : World) (lo hi lo' hi' : Nat) (a b : Option Addr) (cap cap' : Nat) (l m : List (List Int)) (ha : Lists w lo hi a l) (hb : Lists w lo' hi' b m) :
    Calls Try.prog 51 #[.slice a l.length cap, .slice b m.length cap', .func (.func 52) #[] #[]] w fun e w' => e = .returned (.bool (eqLL l m)) ∧ Drawn w w' := by
  have hml := hb.len
  have hll := ha.len
  by_cases hne : l.length = m.length
  · have HN := Lib.hid hne
    have hlm : l.length ≤ m.length := by omega
    have hn' : ((l.length : Int) != (m.length : Int)) = false := by simp; omega
    clear hne
    go_enter Try.func51, Try.ntmps51
    go_wp2
    go_loopw [17] (fun i wr => ∃ k : Nat, k ≤ l.length ∧ i = .int .i64 (k : Int) ∧ Hid (Drawn w wr) ∧ Hid (l.take k = m.take k)) (fun i _ => l.length - (intOf i).toNat)
    case atStart => exact ⟨0, Nat.zero_le _, rfl, Drawn.refl _, rfl⟩
    case round =>
      obtain ⟨k, hk, rfl, HD, HT⟩ := hrel
      replace ha := ha.drawn HD.out
      replace hb := hb.drawn HD.out
      by_cases hlt : k < l.length
      · obtain ⟨p, off, aj, cj, rfl, _, _, hc, hx⟩ := ha.at_ hlt
        have hkm : k < m.length := Nat.lt_of_lt_of_le hlt hlm
        obtain ⟨p', off', aj', cj', rfl, _, _, hc', hy⟩ := hb.at_ hkm
        have hyy := Lib.hid (take_succ_eq [] hlt hkm HT.out)
        have hnn := Lib.hid (ne_of_getD (l := l) (m := m) (k := k) [])
        obtain ⟨x, ex⟩ : ∃ x, l.getD k [] = x := ⟨_, rfl⟩
        obtain ⟨y, ey⟩ : ∃ y, m.getD k [] = y := ⟨_, rfl⟩
        rw [ex] at hc hx hyy hnn
        rw [ey] at hc' hy hyy hnn
        clear ex ey
        have D1 := Lib.hid (slicesEqual wr _ _ _ _ _ _ cj cj' x y hx hy)
        cases hxy : eqL x y
        · have hn'' := Lib.hid (hnn.out (of_decide_eq_false hxy))
          clear hnn hyy
          rw [hxy] at D1
          clear hxy
          go_wp2_with (go_at_call 52; refine D1.out.mono ?_; rintro e wz ⟨rfl, hz⟩; have HZ := Lib.hid hz; clear hz)
          go_ret
          exact ⟨ret_bool (decide_eq_false hn''.out).symm, HD.out.trans HZ.out⟩
        · have hy' := Lib.hid (hyy.out (of_decide_eq_true hxy))
          clear hnn hyy
          rw [hxy] at D1
          clear hxy
          go_wp2_with (go_at_call 52; refine D1.out.mono ?_; rintro e wz ⟨rfl, hz⟩; have HZ := Lib.hid hz; clear hz)
          go_roundw
          case rel => exact ⟨k + 1, by omega, by go_num, HD.out.trans HZ.out, hy'.out⟩
          case measure => simp [intOf]; omega
      · have he := Lib.hid (eq_of_takes (by omega) HN.out HT.out)
        go_wp2
        go_ret
        exact ⟨ret_bool (decide_eq_true he.out).symm, HD.out⟩
  · have HN := Lib.hid (show ¬ l = m from fun h => hne (by rw [h]))
    have hn' : ((l.length : Int) != (m.length : Int)) = true := by simp; omega
    go_enter Try.func51, Try.ntmps51
    go_wp2
    go_ret
    exact ⟨ret_bool (decide_eq_false HN.out).symm, Drawn.refl _⟩
/-- two vectors whose coordinates agree are one -/
theorem dst4_zero (x y : List Int) (n : Nat) : 0 ≤ dst 4 x y n ∧ (dst 4 x y n = 0 → ∀ i, i < n → x.getD i 0 = y.getD i 0) ∧ ((∀ i, i < n → x.getD i 0 = y.getD i 0) → dst 4 x y n = 0) := by
  induction n with
  | zero => exact ⟨Int.le_refl _, fun _ i hi => absurd hi (Nat.not_lt_zero _), fun _ => rfl⟩
  | succ n ih =>
    have hnn := adiff_nonneg (x.getD n 0) (y.getD n 0)
    have hz := @adiff_zero (x.getD n 0) (y.getD n 0)
    show 0 ≤ dstep 4 (dst 4 x y n) (adiff (x.getD n 0) (y.getD n 0)) ∧ (dstep 4 (dst 4 x y n) (adiff (x.getD n 0) (y.getD n 0)) = 0 → _) ∧ (_ → dstep 4 (dst 4 x y n) (adiff (x.getD n 0) (y.getD n 0)) = 0)
    by_cases hp : 0 < adiff (x.getD n 0) (y.getD n 0)
    · rw [dstep_pos _ (by decide) (by decide) (by decide) hp]
      refine ⟨by omega, fun h => by omega, fun h => ?_⟩
      have := hz.2 (h n (by omega))
      omega
    · rw [dstep_zero _ (by decide) (by decide) (by decide) hp]
      refine ⟨ih.1, fun h i hi => ?_, fun h => ih.2.2 fun i hi => h i (by omega)⟩
      by_cases hin : i = n
      · subst hin; exact hz.1 (by omega)
      · exact ih.2.1 h i (by omega)
theorem dst4_eq {x y : List Int} (hx : x.length = 4) (hy : y.length = 4) : (0 < dst 4 x y 4) ↔ x ≠ y := by
  have h := dst4_zero x y 4
  constructor
  · intro hp he
    subst he
    have := h.2.2 fun _ _ => rfl
    omega
  · intro hne
    rcases Int.lt_or_le 0 (dst 4 x y 4) with h1 | h1
    · exact h1
    · refine absurd ?_ hne
      have h2 := h.2.1 (by omega)
      refine List.ext_getElem (by omega) fun j q1 q2 => ?_
      have := h2 j (by omega)
      rw [List.getD_eq_getElem?_getD, List.getD_eq_getElem?_getD, List.getElem?_eq_getElem q1, List.getElem?_eq_getElem q2] at this
      exact this
set_option maxHeartbeats 1000000 in
theorem sameVectors_any (w : World) (lo hi lo' hi' : Nat) (a b : Option Addr) (cap cap' : Nat) (l m : List (List Int)) (ha : Lists w lo hi a l) (hb : Lists w lo' hi' b m) (hvl : vecsB l 4 = true) (hvm : vecsB m 4 = true) (hne : l.length = m.length) :
    Calls Try.prog 49 #[.slice a l.length cap, .slice b m.length cap'] w fun e w' => e = .returned (.bool (eqLL l m)) ∧ Drawn w w' := by
  have hml := hb.len
  have hll := ha.len
  have HVL := Lib.hid hvl
  have HVM := Lib.hid hvm
  have HN := Lib.hid hne
  have hlm : l.length ≤ m.length := by omega
  have hn' : ((l.length : Int) != (m.length : Int)) = false := by simp; omega
  clear hne hvl hvm
  go_enter Try.func49, Try.ntmps49
  go_wp2_with fail
  go_loopw [5] (fun i wr => ∃ k : Nat, k ≤ l.length ∧ i = .int .i64 (k : Int) ∧ Hid (Drawn w wr) ∧ Hid (l.take k = m.take k)) (fun i _ => l.length - (intOf i).toNat)
  case atStart => exact ⟨0, Nat.zero_le _, rfl, Drawn.refl _, rfl⟩
  case round =>
    obtain ⟨k, hk, rfl, HD, HT⟩ := hrel
    replace ha := ha.drawn HD.out
    replace hb := hb.drawn HD.out
    by_cases hlt : k < l.length
    · obtain ⟨p, off, aj, cj, rfl, _, _, hc, hx⟩ := ha.at_ hlt
      have hkm : k < m.length := Nat.lt_of_lt_of_le hlt hlm
      obtain ⟨p', off', aj', cj', rfl, _, _, hc', hy⟩ := hb.at_ hkm
      have hyy := Lib.hid (take_succ_eq [] hlt hkm HT.out)
      have hnn := Lib.hid (ne_of_getD (l := l) (m := m) (k := k) [])
      have VX := vecsB_at HVL.out hlt
      have VY := vecsB_at HVM.out hkm
      obtain ⟨x, ex⟩ : ∃ x, l.getD k [] = x := ⟨_, rfl⟩
      obtain ⟨y, ey⟩ : ∃ y, m.getD k [] = y := ⟨_, rfl⟩
      rw [ex] at hc hx hyy hnn VX
      rw [ey] at hc' hy hyy hnn VY
      have hx4 : x.length = 4 := by have := vecB_len VX; omega
      have hy4 : y.length = 4 := by have := vecB_len VY; omega
      have HD4 := Lib.hid (dst4_eq hx4 hy4)
      have D1 := Lib.hid fun n : Nat => specDist (wr.drewN n) _ _ _ _ _ _ cj cj' x y 4 (hx.drawn ⟨n, rfl⟩) (hy.drawn ⟨n, rfl⟩) (vecB_coords VX) (vecB_coords VY) (by omega) (by omega)
      rw [hx4] at hc D1
      rw [hy4] at hc' D1
      have hb0 := (dst4_zero x y 4).1
      obtain ⟨d, ed⟩ : ∃ d, dst 4 x y 4 = d := ⟨_, rfl⟩
      rw [ed] at HD4 D1 hb0
      have hki : (k : Int) < l.length := by omega
      have hki2 : (k : Int) < m.length := by omega
      clear ex ey ed VX VY hx4 hy4 hx hy
      by_cases hd : 0 < d
      · have hn'' := Lib.hid (hnn.out (HD4.out.1 hd))
        have hdd : decide (0 < d) = true := decide_eq_true hd
        clear hnn hyy HD4
        go_wp2_with fail
        go_quiet ((go_at_call 65; exact quiet_drawn (D1.out _)))
        go_wp2_with fail
        go_ret
        exact ⟨ret_bool (decide_eq_false hn''.out).symm, HD.out.more _⟩
      · have hy' := Lib.hid (hyy.out (by
          by_cases hxy : x = y
          · exact hxy
          · exact absurd (HD4.out.2 hxy) hd))
        have hdd : decide (0 < d) = false := decide_eq_false hd
        clear hnn hyy HD4
        go_wp2_with fail
        go_quiet ((go_at_call 65; exact quiet_drawn (D1.out _)))
        go_wp2_with fail
        go_roundw
        case rel => exact ⟨k + 1, by omega, by go_num, HD.out.more _, hy'.out⟩
        case measure => simp [intOf]; omega
    · have he := Lib.hid (eq_of_takes (by omega) HN.out HT.out)
      go_wp2_with fail
      go_ret
      exact ⟨ret_bool (decide_eq_true he.out).symm, HD.out⟩
end Go.Proofs.Ytfgjmfnbpbanmaa
