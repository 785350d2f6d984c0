/-
  Slices of nodes, and whether two of them are the same.
-/
import Derived.Test.YtlammenejgagdaaTreeKit
import Derived.Test.YtlammenejgagdaaEqWalks
import Derived.Test.YtlammenejgagdaaDistWalks
import Derived.BigQuiet
namespace Go.Proofs.Ytlammenejgagdaa
open Go.RowKit
set_option linter.unusedVariables false

instance : DecidableEq Nd := fun ⟨a, b, c, d⟩ ⟨a', b', c', d'⟩ => decidable_of_iff (a = a' ∧ b = b' ∧ c = c' ∧ d = d') (by simp)
/-- two lists of nodes are the same -/
def eqN (l m : List Nd) : Bool := decide (l = m)
/-- The slice value '.slice a N.length cap' reads as N; its cells lie in the blocks lo .. hi-1. -/
structure Nodes (w : World) (lo hi : Nat) (a : Option Addr) (N : List Nd) : Prop where
  cells : N ≠ [] → ∃ b off, a = some ⟨b, off, none⟩ ∧ lo ≤ b ∧ b < hi ∧ ∀ j, j < N.length → w.cell? ⟨b, off + j * 4, none⟩ = some (.int .i64 (N.getD j Nd.no).key) ∧ w.cell? ⟨b, off + j * 4 + 1, none⟩ = some (.int .i64 (N.getD j Nd.no).rad) ∧ w.cell? ⟨b, off + j * 4 + 2, none⟩ = some (.int .i64 (N.getD j Nd.no).near) ∧ w.cell? ⟨b, off + j * 4 + 3, none⟩ = some (.int .i64 (N.getD j Nd.no).far)
  len : N.length ≤ 9223372036854775807
namespace Nodes
variable {w w' : World} {lo hi lo' hi' : Nat} {a : Option Addr} {N : List Nd}
theorem nil (w : World) (lo hi : Nat) (a : Option Addr) : Nodes w lo hi a [] := ⟨fun h => absurd rfl h, by simp⟩
theorem at_ (h : Nodes w lo hi a N) {k : Nat} (hk : k < N.length) : ∃ b off, a = some ⟨b, off, none⟩ ∧ lo ≤ b ∧ b < hi ∧ w.cell? ⟨b, off + k * 4, none⟩ = some (.int .i64 (N.getD k Nd.no).key) ∧ w.cell? ⟨b, off + k * 4 + 1, none⟩ = some (.int .i64 (N.getD k Nd.no).rad) ∧ w.cell? ⟨b, off + k * 4 + 2, none⟩ = some (.int .i64 (N.getD k Nd.no).near) ∧ w.cell? ⟨b, off + k * 4 + 3, none⟩ = some (.int .i64 (N.getD k Nd.no).far) := by
  obtain ⟨b, off, ha, h1, h2, h3⟩ := h.cells (by intro e; subst e; simp at hk)
  exact ⟨b, off, ha, h1, h2, h3 k hk⟩
theorem upd (h : Nodes w lo hi a N) (u : Upd lo' hi' w w') (hd : hi ≤ lo' ∨ hi' ≤ lo ∨ hi' ≤ lo') : Nodes w' lo hi a N := by
  refine ⟨fun hne => ?_, h.len⟩
  obtain ⟨b, off, ha, h1, h2, h3⟩ := h.cells hne
  have hb : b < lo' ∨ hi' ≤ b := by
    rcases hd with hd | hd | hd
    · exact .inl (by omega)
    · exact .inr (by omega)
    · by_cases hb : b < lo'
      · exact .inl hb
      · exact .inr (by omega)
  exact ⟨b, off, ha, h1, h2, fun j hj => ⟨u.cell (h3 j hj).1 hb, u.cell (h3 j hj).2.1 hb, u.cell (h3 j hj).2.2.1 hb, u.cell (h3 j hj).2.2.2 hb⟩⟩
theorem below (h : Nodes w lo hi a N) (u : Below w.heap.size w w') : Nodes w' lo hi a N := h.upd (Upd.of_below (lo := 0) (hi := 0) u) (by omega)
theorem drawn (h : Nodes w lo hi a N) (d : Drawn w w') : Nodes w' lo hi a N := h.upd (d.upd (lo := 0) (hi := 0)) (by omega)
theorem wide (h : Nodes w lo hi a N) (h1 : lo' ≤ lo) (h2 : hi ≤ hi') : Nodes w lo' hi' a N := by
  refine ⟨fun hne => ?_, h.len⟩
  obtain ⟨b, off, ha, k1, k2, k3⟩ := h.cells hne
  exact ⟨b, off, ha, by omega, by omega, k3⟩
theorem drop {b off : Nat} (h : Nodes w lo hi (some ⟨b, off, none⟩) N) (k : Nat) : Nodes w lo hi (some ⟨b, off + k * 4, none⟩) (N.drop k) := by
  refine ⟨fun hne => ?_, by have := h.len; simp; omega⟩
  obtain ⟨b', off', ha, h1, h2, h3⟩ := h.cells (by rintro rfl; simp at hne)
  simp only [Option.some.injEq, Addr.mk.injEq] at ha
  obtain ⟨rfl, rfl, _⟩ := ha
  refine ⟨b, off + k * 4, rfl, h1, h2, fun j hj => ?_⟩
  have hj' : k + j < N.length := by simp at hj; omega
  have e : (N.drop k).getD j Nd.no = N.getD (k + j) Nd.no := by rw [List.getD_eq_getElem?_getD, List.getD_eq_getElem?_getD, List.getElem?_drop]
  have q := h3 (k + j) hj'
  rw [e, show off + k * 4 + j * 4 = off + (k + j) * 4 by omega]
  exact q
/-- nodes of the call's own -/
theorem of_own {base n : Nat} {v : Value} (h : w.ownsRow base 46 4 v n (flatN N)) (hn : n ≤ 9223372036854775807) : ∃ a cap, v = .slice a N.length cap ∧ Nodes w base w.heap.size a N ∧ Cap N.length cap := by
  have hl : N.length = n := by have := h.1; rw [flatN_length] at this; omega
  subst hl
  obtain ⟨a, cap, rfl, hc⟩ := owns_form h
  refine ⟨a, cap, rfl, ⟨fun hne => ?_, hn⟩, hc⟩
  have h1 : 1 ≤ N.length := List.length_pos_iff.2 hne
  rcases h.2 with ⟨hv, h0⟩ | ⟨g, cap', cur, hv, hb, hg, _⟩
  · omega
  · simp only [Value.slice.injEq] at hv
    obtain ⟨rfl, _, rfl⟩ := hv
    refine ⟨g, 0, rfl, hb, (Array.getElem?_eq_some_iff.1 hg).1, fun j hj => ?_⟩
    have e0 := h.cellAt (j * 4 + 0) (by omega)
    have e1 := h.cellAt (j * 4 + 1) (by omega)
    have e2 := h.cellAt (j * 4 + 2) (by omega)
    have e3 := h.cellAt (j * 4 + 3) (by omega)
    rw [flatN_cell 0 (by omega) hj] at e0
    rw [flatN_cell 1 (by omega) hj] at e1
    rw [flatN_cell 2 (by omega) hj] at e2
    rw [flatN_cell 3 (by omega) hj] at e3
    rw [Nat.zero_add]
    exact ⟨e0, e1, e2, e3⟩
end Nodes
set_option maxHeartbeats 1000000 in
theorem sameNodes_any (w : World) (lo hi lo' hi' : Nat) (a b : Option Addr) (cap cap' : Nat) (l m : List Nd) (ha : Nodes w lo hi a l) (hb : Nodes w lo' hi' b m) :
    Calls Try.prog 32 #[.slice a l.length cap, .slice b m.length cap'] w fun e w' => e = .returned (.bool (eqN l m)) ∧ Drawn w w' := by
  have hml := hb.len
  have hll := ha.len
  by_cases hne : l.length = m.length
  · have HN := Lib.hid hne
    have hlm : l.length ≤ m.length := by omega
    have hn' : ((l.length : Int) != (m.length : Int)) = false := by simp; omega
    clear hne
    go_enter Try.func32, Try.ntmps32
    go_wp2
    go_loopw [5] (fun i wr => ∃ k : Nat, k ≤ l.length ∧ i = .int .i64 (k : Int) ∧ Hid (Drawn w wr) ∧ Hid (l.take k = m.take k)) (fun i _ => l.length - (intOf i).toNat)
    case atStart => exact ⟨0, Nat.zero_le _, rfl, Drawn.refl _, rfl⟩
    case round =>
      obtain ⟨k, hk, rfl, HD, HT⟩ := hrel
      replace ha := ha.drawn HD.out
      replace hb := hb.drawn HD.out
      by_cases hlt : k < l.length
      · obtain ⟨p, off, rfl, _, _, c0, c1, c2, c3⟩ := ha.at_ hlt
        have hkm : k < m.length := Nat.lt_of_lt_of_le hlt hlm
        obtain ⟨p', off', rfl, _, _, d0, d1, d2, d3⟩ := hb.at_ hkm
        have hy := Lib.hid (take_succ_eq Nd.no hlt hkm HT.out)
        have hn := Lib.hid (ne_of_getD (l := l) (m := m) (k := k) Nd.no)
        obtain ⟨⟨xk, xr, xn, xf⟩, ex⟩ : ∃ x, l.getD k Nd.no = x := ⟨_, rfl⟩
        obtain ⟨⟨yk, yr, yn, yf⟩, ey⟩ : ∃ y, m.getD k Nd.no = y := ⟨_, rfl⟩
        rw [ex] at c0 c1 c2 c3 hy hn
        rw [ey] at d0 d1 d2 d3 hy hn
        dsimp only at c0 c1 c2 c3 d0 d1 d2 d3
        clear ex ey
        by_cases hxy : (⟨xk, xr, xn, xf⟩ : Nd) = ⟨yk, yr, yn, yf⟩
        · have hy' := Lib.hid (hy.out hxy)
          simp only [Nd.mk.injEq] at hxy
          obtain ⟨rfl, rfl, rfl, rfl⟩ := hxy
          clear hn hy
          go_wp2
          go_quiet (fail)
          go_wp2
          go_roundw
          case rel => exact ⟨k + 1, by omega, by go_num, HD.out.more _, hy'.out⟩
          case measure => simp [intOf]; omega
        · have hn' := Lib.hid (hn.out hxy)
          clear hn hy
          by_cases e1 : xk = yk
          · subst e1
            by_cases e2 : xr = yr
            · subst e2
              by_cases e3 : xn = yn
              · subst e3
                have e4 : (xf == yf) = false := by
                  rw [beq_eq_false_iff_ne]
                  exact fun e => hxy (by rw [e])
                clear hxy
                go_wp2
                go_quiet (fail)
                go_wp2
                go_ret
                exact ⟨ret_bool (decide_eq_false hn'.out).symm, HD.out.more _⟩
              · have e3' : (xn == yn) = false := by rw [beq_eq_false_iff_ne]; exact e3
                clear hxy e3
                go_wp2
                go_quiet (fail)
                go_wp2
                go_ret
                exact ⟨ret_bool (decide_eq_false hn'.out).symm, HD.out.more _⟩
            · have e2' : (xr == yr) = false := by rw [beq_eq_false_iff_ne]; exact e2
              clear hxy e2
              go_wp2
              go_quiet (fail)
              go_wp2
              go_ret
              exact ⟨ret_bool (decide_eq_false hn'.out).symm, HD.out.more _⟩
          · have e1' : (xk == yk) = false := by rw [beq_eq_false_iff_ne]; exact e1
            clear hxy e1
            go_wp2
            go_quiet (fail)
            go_wp2
            go_ret
            exact ⟨ret_bool (decide_eq_false hn'.out).symm, HD.out.more _⟩
      · have he := Lib.hid (eq_of_takes (by omega) HN.out HT.out)
        go_wp2
        go_ret
        exact ⟨ret_bool (decide_eq_true he.out).symm, HD.out⟩
  · have HN := Lib.hid (show ¬ l = m from fun h => hne (by rw [h]))
    have hn' : ((l.length : Int) != (m.length : Int)) = true := by simp; omega
    go_enter Try.func32, Try.ntmps32
    go_wp2
    go_ret
    exact ⟨ret_bool (decide_eq_false HN.out).symm, Drawn.refl _⟩
set_option maxHeartbeats 1000000 in
theorem equalNodes_any (w : World) (lo hi lo' hi' : Nat) (a b : Option Addr) (cap cap' : Nat) (l m : List Nd) (ha : Nodes w lo hi a l) (hb : Nodes w lo' hi' b m) :
    Calls Try.prog 12 #[.slice a l.length cap, .slice b m.length cap'] w fun e w' => e = .returned (.bool (eqN l m)) ∧ Drawn w w' := by
  have hml := hb.len
  have hll := ha.len
  by_cases hne : l.length = m.length
  · have HN := Lib.hid hne
    have hlm : l.length ≤ m.length := by omega
    have hn' : ((l.length : Int) != (m.length : Int)) = false := by simp; omega
    clear hne
    go_enter Try.func12, Try.ntmps12
    go_wp2
    go_loopw [5] (fun i wr => ∃ k : Nat, k ≤ l.length ∧ i = .int .i64 (k : Int) ∧ Hid (Drawn w wr) ∧ Hid (l.take k = m.take k)) (fun i _ => l.length - (intOf i).toNat)
    case atStart => exact ⟨0, Nat.zero_le _, rfl, Drawn.refl _, rfl⟩
    case round =>
      obtain ⟨k, hk, rfl, HD, HT⟩ := hrel
      replace ha := ha.drawn HD.out
      replace hb := hb.drawn HD.out
      by_cases hlt : k < l.length
      · obtain ⟨p, off, rfl, _, _, c0, c1, c2, c3⟩ := ha.at_ hlt
        have hkm : k < m.length := Nat.lt_of_lt_of_le hlt hlm
        obtain ⟨p', off', rfl, _, _, d0, d1, d2, d3⟩ := hb.at_ hkm
        have hy := Lib.hid (take_succ_eq Nd.no hlt hkm HT.out)
        have hn := Lib.hid (ne_of_getD (l := l) (m := m) (k := k) Nd.no)
        obtain ⟨⟨xk, xr, xn, xf⟩, ex⟩ : ∃ x, l.getD k Nd.no = x := ⟨_, rfl⟩
        obtain ⟨⟨yk, yr, yn, yf⟩, ey⟩ : ∃ y, m.getD k Nd.no = y := ⟨_, rfl⟩
        rw [ex] at c0 c1 c2 c3 hy hn
        rw [ey] at d0 d1 d2 d3 hy hn
        dsimp only at c0 c1 c2 c3 d0 d1 d2 d3
        clear ex ey
        by_cases hxy : (⟨xk, xr, xn, xf⟩ : Nd) = ⟨yk, yr, yn, yf⟩
        · have hy' := Lib.hid (hy.out hxy)
          simp only [Nd.mk.injEq] at hxy
          obtain ⟨rfl, rfl, rfl, rfl⟩ := hxy
          clear hn hy
          go_wp2
          go_quiet (fail)
          go_wp2
          go_roundw
          case rel => exact ⟨k + 1, by omega, by go_num, HD.out.more _, hy'.out⟩
          case measure => simp [intOf]; omega
        · have hn' := Lib.hid (hn.out hxy)
          clear hn hy
          by_cases e1 : xk = yk
          · subst e1
            by_cases e2 : xr = yr
            · subst e2
              by_cases e3 : xn = yn
              · subst e3
                have e4 : (xf == yf) = false := by
                  rw [beq_eq_false_iff_ne]
                  exact fun e => hxy (by rw [e])
                clear hxy
                go_wp2
                go_quiet (fail)
                go_wp2
                go_ret
                exact ⟨ret_bool (decide_eq_false hn'.out).symm, HD.out.more _⟩
              · have e3' : (xn == yn) = false := by rw [beq_eq_false_iff_ne]; exact e3
                clear hxy e3
                go_wp2
                go_quiet (fail)
                go_wp2
                go_ret
                exact ⟨ret_bool (decide_eq_false hn'.out).symm, HD.out.more _⟩
            · have e2' : (xr == yr) = false := by rw [beq_eq_false_iff_ne]; exact e2
              clear hxy e2
              go_wp2
              go_quiet (fail)
              go_wp2
              go_ret
              exact ⟨ret_bool (decide_eq_false hn'.out).symm, HD.out.more _⟩
          · have e1' : (xk == yk) = false := by rw [beq_eq_false_iff_ne]; exact e1
            clear hxy e1
            go_wp2
            go_quiet (fail)
            go_wp2
            go_ret
            exact ⟨ret_bool (decide_eq_false hn'.out).symm, HD.out.more _⟩
      · have he := Lib.hid (eq_of_takes (by omega) HN.out HT.out)
        go_wp2
        go_ret
        exact ⟨ret_bool (decide_eq_true he.out).symm, HD.out⟩
  · have HN := Lib.hid (show ¬ l = m from fun h => hne (by rw [h]))
    have hn' : ((l.length : Int) != (m.length : Int)) = true := by simp; omega
    go_enter Try.func12, Try.ntmps12
    go_wp2
    go_ret
    exact ⟨ret_bool (decide_eq_false HN.out).symm, Drawn.refl _⟩
set_option maxHeartbeats 1000000 in
theorem equalN_any (w : World) (lo hi lo' hi' : Nat) (a b : Option Addr) (cap cap' : Nat) (l m : List Nd) (ha : Nodes w lo hi a l) (hb : Nodes w lo' hi' b m) :
    Calls Try.prog 28 #[.slice a l.length cap, .slice b m.length cap'] w fun e w' => e = .returned (.bool (eqN l m)) ∧ Drawn w w' := by
  have hml := hb.len
  have hll := ha.len
  by_cases hne : l.length = m.length
  · have HN := Lib.hid hne
    have hlm : l.length ≤ m.length := by omega
    have hn' : ((l.length : Int) != (m.length : Int)) = false := by simp; omega
    clear hne
    go_enter Try.func28, Try.ntmps28
    go_wp2
    go_loopw [13] (fun i wr => ∃ k : Nat, k ≤ l.length ∧ i = .int .i64 (k : Int) ∧ Hid (Drawn w wr) ∧ Hid (l.take k = m.take k)) (fun i _ => l.length - (intOf i).toNat)
    case atStart => exact ⟨0, Nat.zero_le _, rfl, Drawn.refl _, rfl⟩
    case round =>
      obtain ⟨k, hk, rfl, HD, HT⟩ := hrel
      replace ha := ha.drawn HD.out
      replace hb := hb.drawn HD.out
      by_cases hlt : k < l.length
      · obtain ⟨p, off, rfl, _, _, c0, c1, c2, c3⟩ := ha.at_ hlt
        have hkm : k < m.length := Nat.lt_of_lt_of_le hlt hlm
        obtain ⟨p', off', rfl, _, _, d0, d1, d2, d3⟩ := hb.at_ hkm
        have hy := Lib.hid (take_succ_eq Nd.no hlt hkm HT.out)
        have hn := Lib.hid (ne_of_getD (l := l) (m := m) (k := k) Nd.no)
        obtain ⟨⟨xk, xr, xn, xf⟩, ex⟩ : ∃ x, l.getD k Nd.no = x := ⟨_, rfl⟩
        obtain ⟨⟨yk, yr, yn, yf⟩, ey⟩ : ∃ y, m.getD k Nd.no = y := ⟨_, rfl⟩
        rw [ex] at c0 c1 c2 c3 hy hn
        rw [ey] at d0 d1 d2 d3 hy hn
        dsimp only at c0 c1 c2 c3 d0 d1 d2 d3
        clear ex ey
        by_cases hxy : (⟨xk, xr, xn, xf⟩ : Nd) = ⟨yk, yr, yn, yf⟩
        · have hy' := Lib.hid (hy.out hxy)
          simp only [Nd.mk.injEq] at hxy
          obtain ⟨rfl, rfl, rfl, rfl⟩ := hxy
          clear hn hy
          go_wp2
          go_quiet (fail)
          go_wp2
          go_roundw
          case rel => exact ⟨k + 1, by omega, by go_num, HD.out.more _, hy'.out⟩
          case measure => simp [intOf]; omega
        · have hn' := Lib.hid (hn.out hxy)
          clear hn hy
          by_cases e1 : xk = yk
          · subst e1
            by_cases e2 : xr = yr
            · subst e2
              by_cases e3 : xn = yn
              · subst e3
                have e4 : (xf == yf) = false := by
                  rw [beq_eq_false_iff_ne]
                  exact fun e => hxy (by rw [e])
                clear hxy
                go_wp2
                go_quiet (fail)
                go_wp2
                go_ret
                exact ⟨ret_bool (decide_eq_false hn'.out).symm, HD.out.more _⟩
              · have e3' : (xn == yn) = false := by rw [beq_eq_false_iff_ne]; exact e3
                clear hxy e3
                go_wp2
                go_quiet (fail)
                go_wp2
                go_ret
                exact ⟨ret_bool (decide_eq_false hn'.out).symm, HD.out.more _⟩
            · have e2' : (xr == yr) = false := by rw [beq_eq_false_iff_ne]; exact e2
              clear hxy e2
              go_wp2
              go_quiet (fail)
              go_wp2
              go_ret
              exact ⟨ret_bool (decide_eq_false hn'.out).symm, HD.out.more _⟩
          · have e1' : (xk == yk) = false := by rw [beq_eq_false_iff_ne]; exact e1
            clear hxy e1
            go_wp2
            go_quiet (fail)
            go_wp2
            go_ret
            exact ⟨ret_bool (decide_eq_false hn'.out).symm, HD.out.more _⟩
      · have he := Lib.hid (eq_of_takes (by omega) HN.out HT.out)
        go_wp2
        go_ret
        exact ⟨ret_bool (decide_eq_true he.out).symm, HD.out⟩
  · have HN := Lib.hid (show ¬ l = m from fun h => hne (by rw [h]))
    have hn' : ((l.length : Int) != (m.length : Int)) = true := by simp; omega
    go_enter Try.func28, Try.ntmps28
    go_wp2
    go_ret
    exact ⟨ret_bool (decide_eq_false HN.out).symm, Drawn.refl _⟩
end Go.Proofs.Ytlammenejgagdaa
