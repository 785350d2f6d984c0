/-
  The walks of the laws' own comparisons of slices of ints, and of slices of slices of ints.
-/
import Derived.Test.YtllahaebfhaobaaLists
import Derived.Deep.QuietTactic
import Derived.BigQuiet
namespace Go.Proofs.Ytllahaebfhaobaa
open Go.RowKit
set_option linter.unusedVariables false

def eqL (l m : List Int) : Bool := decide (l = m)
def eqLL (l m : List (List Int)) : Bool := decide (l = m)
theorem eqL_self (l : List Int) : eqL l l = true := decide_eq_true rfl
theorem eqL_app {a b c d : List Int} (h : a.length = c.length) : eqL (a ++ b) (c ++ d) = (eqL a c && eqL b d) := by
  unfold eqL
  rw [← Bool.decide_and]
  exact decide_eq_decide.2 ⟨fun e => List.append_inj e h, fun e => by rw [e.1, e.2]⟩
theorem eqLL_self (l : List (List Int)) : eqLL l l = true := decide_eq_true rfl

theorem take_succ_eq {α : Type} {l m : List α} {k : Nat} (d : α) (hl : k < l.length) (hm : k < m.length) (h : l.take k = m.take k) (he : l.getD k d = m.getD k d) : l.take (k + 1) = m.take (k + 1) := by
  rw [List.take_succ_eq_append_getElem hl, List.take_succ_eq_append_getElem hm, h]
  rw [List.getD_eq_getElem?_getD, List.getD_eq_getElem?_getD, List.getElem?_eq_getElem hl, List.getElem?_eq_getElem hm] at he
  simp at he
  rw [he]
theorem ne_of_getD {α : Type} {l m : List α} {k : Nat} (d : α) (he : l.getD k d ≠ m.getD k d) : l ≠ m := fun h => he (by rw [h])
theorem eq_of_takes {α : Type} {l m : List α} {k : Nat} (hk : k = l.length) (hlm : l.length = m.length) (h : l.take k = m.take k) : l = m := by
  subst hk
  rw [List.take_length, hlm, List.take_length] at h
  exact h

set_option maxHeartbeats 1000000 in
theorem eqIntS_any (w : World) (lo hi lo' hi' : Nat) (a b : Option Addr) (cap cap' : Nat) (l m : List Int) (ha : Ints w lo hi a l) (hb : Ints w lo' hi' b m) :
    Calls Try.prog 22 #[.slice a l.length cap, .slice b m.length cap'] w fun e w' => e = .returned (.bool (eqL l m)) ∧ Drawn w w' := by
  have hml := hb.len
  have hll := ha.len
  by_cases hne : l.length = m.length
  · have HN := Lib.hid hne
    have hlm : l.length ≤ m.length := by omega
    have hn' : ((l.length : Int) != (m.length : Int)) = false := by simp; omega
    clear hne
    go_enter Try.func22, Try.ntmps22
    go_wp2
    go_loopw [5] (fun i wr => ∃ k : Nat, k ≤ l.length ∧ i = .int .i64 (k : Int) ∧ Hid (Drawn w wr) ∧ Hid (l.take k = m.take k)) (fun i _ => l.length - (intOf i).toNat)
    case atStart => exact ⟨0, Nat.zero_le _, rfl, Drawn.refl _, rfl⟩
    case round =>
      obtain ⟨k, hk, rfl, HD, HT⟩ := hrel
      replace ha := ha.drawn HD.out
      replace hb := hb.drawn HD.out
      by_cases hlt : k < l.length
      · obtain ⟨p, off, rfl, _, _, hc, _⟩ := ha.at_ hlt
        have hkm : k < m.length := Nat.lt_of_lt_of_le hlt hlm
        obtain ⟨p', off', rfl, _, _, hc', _⟩ := hb.at_ hkm
        have hy := Lib.hid (take_succ_eq 0 hlt hkm HT.out)
        have hn := Lib.hid (ne_of_getD (l := l) (m := m) (k := k) 0)
        obtain ⟨x, ex⟩ : ∃ x, l.getD k 0 = x := ⟨_, rfl⟩
        obtain ⟨y, ey⟩ : ∃ y, m.getD k 0 = y := ⟨_, rfl⟩
        rw [ex] at hc hy hn
        rw [ey] at hc' hy hn
        clear ex ey
        by_cases hxy : x = y
        · have hy' := Lib.hid (hy.out hxy)
          subst hxy
          clear hn hy
          go_wp2
          go_quiet (fail)
          go_wp2
          go_roundw
          case rel => exact ⟨k + 1, by omega, by go_num, HD.out.more _, hy'.out⟩
          case measure => simp [intOf]; omega
        · have hn' := Lib.hid (hn.out hxy)
          have hxy' : (x != y) = true := by simpa using hxy
          clear hn hy
          go_wp2
          go_quiet (fail)
          go_wp2
          go_ret
          exact ⟨ret_bool (decide_eq_false hn'.out).symm, HD.out.more _⟩
      · have he := Lib.hid (eq_of_takes (by omega) HN.out HT.out)
        go_wp2
        go_ret
        exact ⟨ret_bool (decide_eq_true he.out).symm, HD.out⟩
  · have HN := Lib.hid (show ¬ l = m from fun h => hne (by rw [h]))
    have hn' : ((l.length : Int) != (m.length : Int)) = true := by simp; omega
    go_enter Try.func22, Try.ntmps22
    go_wp2
    go_ret
    exact ⟨ret_bool (decide_eq_false HN.out).symm, Drawn.refl _⟩
set_option maxHeartbeats 1000000 in
theorem eqIntSS_any (w : World) (lo hi lo' hi' : Nat) (a b : Option Addr) (cap cap' : Nat) (l m : List (List Int)) (ha : Lists w lo hi a l) (hb : Lists w lo' hi' b m) :
    Calls Try.prog 57 #[.slice a l.length cap, .slice b m.length cap'] w fun e w' => e = .returned (.bool (eqLL l m)) ∧ Drawn w w' := by
  have hml := hb.len
  have hll := ha.len
  by_cases hne : l.length = m.length
  · have HN := Lib.hid hne
    have hlm : l.length ≤ m.length := by omega
    have hn' : ((l.length : Int) != (m.length : Int)) = false := by simp; omega
    clear hne
    go_enter Try.func57, Try.ntmps57
    go_wp2
    go_loopw [5] (fun i wr => ∃ k : Nat, k ≤ l.length ∧ i = .int .i64 (k : Int) ∧ Hid (Drawn w wr) ∧ Hid (l.take k = m.take k)) (fun i _ => l.length - (intOf i).toNat)
    case atStart => exact ⟨0, Nat.zero_le _, rfl, Drawn.refl _, rfl⟩
    case round =>
      obtain ⟨k, hk, rfl, HD, HT⟩ := hrel
      replace ha := ha.drawn HD.out
      replace hb := hb.drawn HD.out
      by_cases hlt : k < l.length
      · obtain ⟨p, off, aj, cj, rfl, _, _, hc, hx⟩ := ha.at_ hlt
        have hkm : k < m.length := Nat.lt_of_lt_of_le hlt hlm
        obtain ⟨p', off', aj', cj', rfl, _, _, hc', hy⟩ := hb.at_ hkm
        have hyy := Lib.hid (take_succ_eq [] hlt hkm HT.out)
        have hnn := Lib.hid (ne_of_getD (l := l) (m := m) (k := k) [])
        obtain ⟨x, ex⟩ : ∃ x, l.getD k [] = x := ⟨_, rfl⟩
        obtain ⟨y, ey⟩ : ∃ y, m.getD k [] = y := ⟨_, rfl⟩
        rw [ex] at hc hx hyy hnn
        rw [ey] at hc' hy hyy hnn
        clear ex ey
        have D1 := Lib.hid fun n : Nat => eqIntS_any (wr.drewN n) _ _ _ _ _ _ cj cj' x y (hx.drawn ⟨n, rfl⟩) (hy.drawn ⟨n, rfl⟩)
        cases hxy : eqL x y
        · have hn'' := Lib.hid (hnn.out (of_decide_eq_false hxy))
          clear hnn hyy
          rw [hxy] at D1
          clear hxy
          go_wp2
          go_quiet ((go_at_call 22; exact quiet_drawn (D1.out _)))
          go_wp2
          go_ret
          exact ⟨ret_bool (decide_eq_false hn''.out).symm, HD.out.more _⟩
        · have hy' := Lib.hid (hyy.out (of_decide_eq_true hxy))
          clear hnn hyy
          rw [hxy] at D1
          clear hxy
          go_wp2
          go_quiet ((go_at_call 22; exact quiet_drawn (D1.out _)))
          go_wp2
          go_roundw
          case rel => exact ⟨k + 1, by omega, by go_num, HD.out.more _, hy'.out⟩
          case measure => simp [intOf]; omega
      · have he := Lib.hid (eq_of_takes (by omega) HN.out HT.out)
        go_wp2
        go_ret
        exact ⟨ret_bool (decide_eq_true he.out).symm, HD.out⟩
  · have HN := Lib.hid (show ¬ l = m from fun h => hne (by rw [h]))
    have hn' : ((l.length : Int) != (m.length : Int)) = true := by simp; omega
    go_enter Try.func57, Try.ntmps57
    go_wp2
    go_ret
    exact ⟨ret_bool (decide_eq_false HN.out).symm, Drawn.refl _⟩
end Go.Proofs.Ytllahaebfhaobaa
