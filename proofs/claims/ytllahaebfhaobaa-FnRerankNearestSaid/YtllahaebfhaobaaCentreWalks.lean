/-
  The walks of the closest of several lists of numbers: the program's closestOf, the reference's loops.
-/
import Derived.Test.YtllahaebfhaobaaDistWalks
import Derived.Test.YtllahaebfhaobaaCentrePlain
namespace Go.Proofs.Ytllahaebfhaobaa
open Go.RowKit
set_option linter.unusedVariables false

set_option maxHeartbeats 1000000 in
theorem closestOf_any (w : World) (lo hi lo' hi' : Nat) (a b : Option Addr) (cap cap' : Nat) (ll : List (List Int)) (m : List Int) (ha : Lists w lo hi a ll) (hb : Ints w lo' hi' b m)
    (hr : RowsOk ll m) (hm : coordsB m = true) (h1 : 1 ≤ ll.length) :
    Calls Try.prog 82 #[.slice a ll.length cap, .slice b m.length cap'] w fun e w' => e = .returned (.int .i64 (near ll m : Int)) ∧ Drawn w w' := by
  have hml := hb.len
  have hll := ha.len
  have HM := Lib.hid hm
  have HR := Lib.hid hr
  clear hm hr
  go_enter Try.func82, Try.ntmps82
  go_wp2
  go_loopw [5, 10] (fun s i wr => ∃ k : Nat, k ≤ ll.length ∧ i = .int .i64 (k : Int) ∧ Drawn w wr ∧ s = .int .i64 (best ll m k : Int)) (fun _ i _ => ll.length - (intOf i).toNat)
  case atStart => exact ⟨0, Nat.zero_le _, rfl, Drawn.refl _, rfl⟩
  case round =>
    obtain ⟨k, hk, rfl, hd, rfl⟩ := hrel
    have HD := Lib.hid hd
    replace ha := ha.drawn hd
    replace hb := hb.drawn hd
    clear hd
    by_cases hlt : k < ll.length
    · obtain ⟨p, off, aj, cj, rfl, _, _, hc, hx⟩ := ha.at_ hlt
      have hby := Lib.hid (best_yes (ll := ll) (m := m) (k := k))
      have hbn := Lib.hid (best_not (ll := ll) (m := m) (k := k))
      obtain ⟨r1, r2, r3⟩ := HR.out k hlt
      have hbl : best ll m k < ll.length := by
        have := best_le ll m k
        omega
      obtain ⟨p', off', aj', cj', he, _, _, hc', hy⟩ := ha.at_ hbl
      obtain ⟨q1, q2, q3⟩ := HR.out _ hbl
      simp only [Option.some.injEq, Addr.mk.injEq] at he
      obtain ⟨rfl, rfl, _⟩ := he
      obtain ⟨bk, hbk⟩ : ∃ bk, best ll m k = bk := ⟨_, rfl⟩
      rw [hbk] at hby hbn hbl hc' hy q1 q2 q3 ⊢
      clear hbk
      obtain ⟨x, ex⟩ : ∃ x, ll.getD k [] = x := ⟨_, rfl⟩
      obtain ⟨y, ey⟩ : ∃ y, ll.getD bk [] = y := ⟨_, rfl⟩
      rw [ex] at hc hx r1 r2 r3 hby hbn
      rw [ey] at hc' hy q1 q2 q3 hby hbn
      clear ex ey
      have D1 := Lib.hid fun n : Nat => implDistance (wr.drewN n) _ _ _ _ _ _ cj cap' x m 3 (hx.drawn ⟨n, rfl⟩) (hb.drawn ⟨n, rfl⟩) r1 HM.out r2 r3
      have D2 := Lib.hid fun n : Nat => implDistance (wr.drewN n) _ _ _ _ _ _ cj' cap' y m 3 (hy.drawn ⟨n, rfl⟩) (hb.drawn ⟨n, rfl⟩) q1 HM.out q2 q3
      clear r1 r2 r3 q1 q2 q3
      go_wp2
      go_quiet ((go_at_call 64; first | (with_reducible exact quiet_drawn (D1.out _)) | (with_reducible exact quiet_drawn (D2.out _))))
      go_wp2
      · go_roundw
        case rel => exact ⟨k + 1, by omega, by go_num, HD.out.more _, int_eq (by rw [hby.out (by assumption)])⟩
        case measure => simp [intOf]; omega
      · go_roundw
        case rel => exact ⟨k + 1, by omega, by go_num, HD.out.more _, int_eq (by rw [hbn.out (by assumption)])⟩
        case measure => simp [intOf]; omega
    · have hk' : k = ll.length := by omega
      have he : Hid (near ll m = best ll m k) := by show _ = _; rw [hk']; rfl
      clear hk'
      go_wp2
      go_ret
      exact ⟨ret_int (by rw [he.out]), HD.out⟩
set_option maxHeartbeats 400000 in
theorem halfDist_any (w : World) (lo hi lo' hi' : Nat) (a b : Option Addr) (cap cap' : Nat) (l m : List Int) (ha : Ints w lo hi a l) (hb : Ints w lo' hi' b m)
    (ca : coordsB l = true) (cb : coordsB m = true) (hlm : l.length ≤ m.length) (hl : l.length ≤ 1000) :
    Calls Try.prog 95 #[.slice a l.length cap, .slice b m.length cap'] w fun e w' => e = .returned (.int .i64 (dst 3 l m l.length)) ∧ Drawn w w' := by
  have D := Lib.hid (specDist w _ _ _ _ _ _ cap cap' l m 3 ha hb ca cb hlm hl)
  clear ca cb
  go_enter Try.func95, Try.ntmps95
  go_wp2_with fail
  refine D.out.mono ?_
  rintro e w' ⟨rfl, hd⟩
  have HD := Lib.hid hd
  clear hd
  go_wp2_with fail
  go_ret
  exact ⟨rfl, HD.out⟩
set_option maxHeartbeats 1000000 in
theorem closest_any (w : World) (lo hi lo' hi' : Nat) (a b : Option Addr) (cap cap' : Nat) (ll : List (List Int)) (m : List Int) (ha : Lists w lo hi a ll) (hb : Ints w lo' hi' b m)
    (hr : RowsOk ll m) (hm : coordsB m = true) (h1 : 1 ≤ ll.length) :
    Calls Try.prog 81 #[.slice a ll.length cap, .slice b m.length cap'] w fun e w' => e = .returned (.int .i64 (near ll m : Int)) ∧ Drawn w w' := by
  have hml := hb.len
  have hll := ha.len
  have HM := Lib.hid hm
  have HR := Lib.hid hr
  clear hm hr
  go_enter Try.func81, Try.ntmps81
  go_wp2
  go_loopw [5, 6] (fun s i wr => ∃ k : Nat, k ≤ ll.length ∧ 1 ≤ k ∧ i = .int .i64 (k : Int) ∧ Drawn w wr ∧ s = .int .i64 (best ll m k : Int)) (fun _ i _ => ll.length - (intOf i).toNat)
  case atStart => exact ⟨1, h1, Nat.le_refl _, rfl, Drawn.refl _, int_eq (by rw [best_one]; rfl)⟩
  case round =>
    obtain ⟨k, hk, hk1, rfl, hd, rfl⟩ := hrel
    have HD := Lib.hid hd
    replace ha := ha.drawn hd
    replace hb := hb.drawn hd
    clear hd
    by_cases hlt : k < ll.length
    · obtain ⟨p, off, aj, cj, rfl, _, _, hc, hx⟩ := ha.at_ hlt
      have hby := Lib.hid (best_yes (ll := ll) (m := m) (k := k))
      have hbn := Lib.hid (best_not (ll := ll) (m := m) (k := k))
      obtain ⟨r1, r2, r3⟩ := HR.out k hlt
      have hbl : best ll m k < ll.length := by
        have := best_le ll m k
        omega
      obtain ⟨p', off', aj', cj', he, _, _, hc', hy⟩ := ha.at_ hbl
      obtain ⟨q1, q2, q3⟩ := HR.out _ hbl
      simp only [Option.some.injEq, Addr.mk.injEq] at he
      obtain ⟨rfl, rfl, _⟩ := he
      obtain ⟨bk, hbk⟩ : ∃ bk, best ll m k = bk := ⟨_, rfl⟩
      rw [hbk] at hby hbn hbl hc' hy q1 q2 q3 ⊢
      clear hbk
      obtain ⟨x, ex⟩ : ∃ x, ll.getD k [] = x := ⟨_, rfl⟩
      obtain ⟨y, ey⟩ : ∃ y, ll.getD bk [] = y := ⟨_, rfl⟩
      rw [ex] at hc hx r1 r2 r3 hby hbn
      rw [ey] at hc' hy q1 q2 q3 hby hbn
      clear ex ey
      have D1 := Lib.hid fun n : Nat => halfDist_any (wr.drewN n) _ _ _ _ _ _ cj cap' x m  (hx.drawn ⟨n, rfl⟩) (hb.drawn ⟨n, rfl⟩) r1 HM.out r2 r3
      have D2 := Lib.hid fun n : Nat => halfDist_any (wr.drewN n) _ _ _ _ _ _ cj' cap' y m  (hy.drawn ⟨n, rfl⟩) (hb.drawn ⟨n, rfl⟩) q1 HM.out q2 q3
      clear r1 r2 r3 q1 q2 q3
      go_wp2
      go_quiet ((go_at_call 95; first | (with_reducible exact quiet_drawn (D1.out _)) | (with_reducible exact quiet_drawn (D2.out _))))
      go_wp2
      · go_roundw
        case rel => exact ⟨k + 1, by omega, by omega, by go_num, HD.out.more _, int_eq (by rw [hby.out (by assumption)])⟩
        case measure => simp [intOf]; omega
      · go_roundw
        case rel => exact ⟨k + 1, by omega, by omega, by go_num, HD.out.more _, int_eq (by rw [hbn.out (by assumption)])⟩
        case measure => simp [intOf]; omega
    · have hk' : k = ll.length := by omega
      have he : Hid (near ll m = best ll m k) := by show _ = _; rw [hk']; rfl
      clear hk'
      go_wp2
      go_ret
      exact ⟨ret_int (by rw [he.out]), HD.out⟩
end Go.Proofs.Ytllahaebfhaobaa
