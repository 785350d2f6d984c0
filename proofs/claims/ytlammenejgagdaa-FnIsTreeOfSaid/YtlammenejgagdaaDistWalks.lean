/-
  The walks of the distance: the program's (all four kinds at once) and the reference's.
-/
import Derived.Test.YtlammenejgagdaaVecWalks
import Derived.Test.YtlammenejgagdaaDistPlain
import Derived.Deep.QuietTactic
import Derived.BigQuiet
import Derived.IntWalk
namespace Go.Proofs.Ytlammenejgagdaa
open Go.RowKit
set_option linter.unusedVariables false

theorem wrap_in {n : Int} (h : -9223372036854775808 ≤ n ∧ n ≤ 9223372036854775807) : IntKind.i64.wrap n = n := IntWalk.i64_in n h

set_option maxHeartbeats 1000000 in
theorem implDistance (w : World) (lo hi lo' hi' : Nat) (a b : Option Addr) (cap cap' : Nat) (l m : List Int) (kind : Int) (ha : Ints w lo hi a l) (hb : Ints w lo' hi' b m)
    (ca : coordsB l = true) (cb : coordsB m = true) (hlm : l.length ≤ m.length) (hl : l.length ≤ 1000) :
    Calls Try.prog 42 #[.int .i64 kind, .slice a l.length cap, .slice b m.length cap'] w fun e w' => e = .returned (.int .i64 (dst kind l m l.length)) ∧ Drawn w w' := by
  have hml := hb.len
  have HA := Lib.hid ca
  have HB := Lib.hid cb
  clear ca cb
  go_enter Try.func42, Try.ntmps42
  go_wp2
  go_loopw [7, 8, 9, 10, 16] (fun s t u v i wr => ∃ k n : Nat, k ≤ l.length ∧ i = .int .i64 (k : Int) ∧ wr = w.drewN n ∧ s = .int .i64 (dst 1 l m k) ∧ t = .int .i64 (dst 2 l m k) ∧ u = .int .i64 (dst 3 l m k) ∧ v = .int .i64 (dst 4 l m k)) (fun _ _ _ _ i _ => l.length - (intOf i).toNat)
  case atStart => exact ⟨0, 0, Nat.zero_le _, rfl, rfl, rfl, rfl, rfl, rfl⟩
  case round =>
    obtain ⟨k, n, hk, rfl, rfl, rfl, rfl, rfl, rfl⟩ := hrel
    have b1 := dst_bd 1 HA.out HB.out k
    have b2 := dst_bd 2 HA.out HB.out k
    have b3 := dst_bd 3 HA.out HB.out k
    have b4 := dst_bd 4 HA.out HB.out k
    by_cases hlt : k < l.length
    · obtain ⟨p, off, rfl, _, _, hc, _⟩ := ha.at_ hlt
      have hkm : k < m.length := Nat.lt_of_lt_of_le hlt hlm
      obtain ⟨p', off', rfl, _, _, hc', _⟩ := hb.at_ hkm
      have hx := coordsB_at HA.out k
      have hy := coordsB_at HB.out k
      have ed : ∀ kind, Hid (dst kind l m (k + 1) = dstep kind (dst kind l m k) (adiff (l.getD k 0) (m.getD k 0))) := fun _ => by show _ = _; rfl
      obtain ⟨x, ex⟩ : ∃ x, l.getD k 0 = x := ⟨_, rfl⟩
      obtain ⟨y, ey⟩ : ∃ y, m.getD k 0 = y := ⟨_, rfl⟩
      rw [ex] at hc hx ed
      rw [ey] at hc' hy ed
      clear ex ey
      have w1 : IntKind.i64.wrap (x - y) = x - y := wrap_in (by omega)
      have w2 : IntKind.i64.wrap (y - x) = y - x := wrap_in (by omega)
      obtain ⟨d, hd⟩ : ∃ d, adiff x y = d := ⟨_, rfl⟩
      have d0 := adiff_bd hx hy
      rw [hd] at d0
      have d1 := sq_bd d0.1 d0.2
      have hd' : (if x - y < y - x then y - x else x - y) = d := hd
      rw [hd] at ed
      clear hd
      go_wp2
      go_quiet (fail)
      clear w1 w2
      go_wp2
      · go_roundw
        case rel => exact ⟨k + 1, n + nq, by omega, by go_num, rfl, int_eq (by rw [(ed 1).out, dstep_1]), int_eq (by rw [(ed 2).out, dstep_2]), int_eq (by rw [(ed 3).out, dstep_3]), int_eq (by rw [(ed 4).out, dstep_pos _ (by omega) (by omega) (by omega) (by assumption)])⟩
        case measure => simp [intOf]; omega
      · go_roundw
        case rel => exact ⟨k + 1, n + nq, by omega, by go_num, rfl, int_eq (by rw [(ed 1).out, dstep_1]), int_eq (by rw [(ed 2).out, dstep_2]), int_eq (by rw [(ed 3).out, dstep_3]), int_eq (by rw [(ed 4).out, dstep_zero _ (by omega) (by omega) (by omega) (by omega)])⟩
        case measure => simp [intOf]; omega
    · have hk' : l.length = k := by omega
      have HK := Lib.hid hk'
      clear hk'
      by_cases k1 : kind = 1
      · subst k1
        go_wp2
        go_ret
        exact ⟨ret_int (by rw [HK.out]), n, rfl⟩
      · by_cases k2 : kind = 2
        · subst k2
          go_wp2
          go_ret
          exact ⟨ret_int (by rw [HK.out]), n, rfl⟩
        · by_cases k3 : kind = 3
          · subst k3
            go_wp2
            go_ret
            exact ⟨ret_int (by rw [HK.out]), n, rfl⟩
          · go_wp2
            go_ret
            exact ⟨ret_int (by rw [HK.out, dst_other k1 k2 k3]), n, rfl⟩

theorem toInt_any (b : Bool) (w : World) : Calls Try.prog 77 #[.bool b] w fun e w' => e = .returned (.int .i64 (if b then 1 else 0)) ∧ w = w' := by
  cases b
  · go_enter Try.func77, Try.ntmps77
    go_wp2
    go_ret
    exact ⟨rfl, rfl⟩
  · go_enter Try.func77, Try.ntmps77
    go_wp2
    go_ret
    exact ⟨rfl, rfl⟩

theorem size_any (x y : Int) (w : World) (hx : -100 ≤ x ∧ x ≤ 100) (hy : -100 ≤ y ∧ y ≤ 100) :
    Calls Try.prog 76 #[.int .i64 (x - y)] w fun e w' => e = .returned (.int .i64 (adiff x y)) ∧ w = w' := by
  have e : adiff x y = if x - y < -(x - y) then -(x - y) else x - y := by
    rw [show -(x - y) = y - x by omega]; rfl
  rw [e]
  clear e
  obtain ⟨d, hd⟩ : ∃ d, x - y = d := ⟨_, rfl⟩
  rw [hd]
  have h1 : -200 ≤ d ∧ d ≤ 200 := by omega
  clear hd
  go_enter Try.func76, Try.ntmps76
  go_wp2
  all_goals go_ret
  all_goals exact ⟨rfl, rfl⟩

set_option maxHeartbeats 1000000 in
theorem specDist (w : World) (lo hi lo' hi' : Nat) (a b : Option Addr) (cap cap' : Nat) (l m : List Int) (kind : Int) (ha : Ints w lo hi a l) (hb : Ints w lo' hi' b m)
    (ca : coordsB l = true) (cb : coordsB m = true) (hlm : l.length ≤ m.length) (hl : l.length ≤ 1000) :
    Calls Try.prog 57 #[.int .i64 kind, .slice a l.length cap, .slice b m.length cap'] w fun e w' => e = .returned (.int .i64 (dst kind l m l.length)) ∧ Drawn w w' := by
  have hml := hb.len
  have HA := Lib.hid ca
  have HB := Lib.hid cb
  clear ca cb
  go_enter Try.func57, Try.ntmps57
  go_wp2
  go_loopw [7, 8] (fun s i wr => ∃ k : Nat, k ≤ l.length ∧ i = .int .i64 (k : Int) ∧ Drawn w wr ∧ s = .int .i64 (dst kind l m k)) (fun _ i _ => l.length - (intOf i).toNat)
  case atStart => exact ⟨0, Nat.zero_le _, rfl, Drawn.refl _, rfl⟩
  case round =>
    obtain ⟨k, hk, rfl, hd, rfl⟩ := hrel
    have HD := Lib.hid hd
    replace ha := ha.drawn hd
    replace hb := hb.drawn hd
    clear hd
    have b1 := dst_bd kind HA.out HB.out k
    by_cases hlt : k < l.length
    · obtain ⟨p, off, rfl, _, _, hc, _⟩ := ha.at_ hlt
      have hkm : k < m.length := Nat.lt_of_lt_of_le hlt hlm
      obtain ⟨p', off', rfl, _, _, hc', _⟩ := hb.at_ hkm
      have hx := coordsB_at HA.out k
      have hy := coordsB_at HB.out k
      have ed : Hid (dst kind l m (k + 1) = dstep kind (dst kind l m k) (adiff (l.getD k 0) (m.getD k 0))) := by show _ = _; rfl
      obtain ⟨x, ex⟩ : ∃ x, l.getD k 0 = x := ⟨_, rfl⟩
      obtain ⟨y, ey⟩ : ∃ y, m.getD k 0 = y := ⟨_, rfl⟩
      rw [ex] at hc hx ed
      rw [ey] at hc' hy ed
      clear ex ey
      have w1 : IntKind.i64.wrap (x - y) = x - y := wrap_in (by omega)
      obtain ⟨d, hd⟩ : ∃ d, adiff x y = d := ⟨_, rfl⟩
      have d0 := adiff_bd hx hy
      rw [hd] at d0
      have d1 := sq_bd d0.1 d0.2
      rw [hd] at ed
      obtain ⟨s, hs⟩ : ∃ s, dst kind l m k = s := ⟨_, rfl⟩
      rw [hs] at b1 ed ⊢
      clear hs
      have HS := fun (n : Nat) => size_any x y (wr.drewN n) hx hy
      rw [hd] at HS
      have HZ := Lib.hid HS
      clear hd HS
      by_cases k1 : kind = 1
      · subst k1
        go_wp2
        go_quiet ((go_at_call 76; exact quiet_left (HZ.out _)))
        clear w1
        go_wp2
        go_roundw
        case rel => exact ⟨k + 1, by omega, by go_num, HD.out.more _, int_eq (by rw [ed.out, dstep_1])⟩
        case measure => simp [intOf]; omega
      · by_cases k2 : kind = 2
        · subst k2
          go_wp2
          go_quiet ((go_at_call 76; exact quiet_left (HZ.out _)))
          clear w1
          go_wp2
          go_roundw
          case rel => exact ⟨k + 1, by omega, by go_num, HD.out.more _, int_eq (by rw [ed.out, dstep_2])⟩
          case measure => simp [intOf]; omega
        · by_cases k3 : kind = 3
          · subst k3
            go_wp2
            go_quiet ((go_at_call 76; exact quiet_left (HZ.out _)))
            clear w1
            go_wp2
            go_roundw
            case rel => exact ⟨k + 1, by omega, by go_num, HD.out.more _, int_eq (by rw [ed.out, dstep_3])⟩
            case measure => simp [intOf]; omega
          · by_cases h0 : 0 < d
            · have h0' : decide (0 < d) = true := decide_eq_true h0
              go_wp2
              go_quiet ((go_at_call 76; exact quiet_left (HZ.out _)))
              clear w1
              go_wp2_with (go_at_call 77; refine (toInt_any _ _).mono ?_; rintro e w' ⟨rfl, rfl⟩)
              go_roundw
              case rel => exact ⟨k + 1, by omega, by go_num, HD.out.more _, int_eq (by rw [ed.out, dstep_pos _ k1 k2 k3 h0])⟩
              case measure => simp [intOf]; omega
            · have h0' : decide (0 < d) = false := decide_eq_false h0
              go_wp2
              go_quiet ((go_at_call 76; exact quiet_left (HZ.out _)))
              clear w1
              go_wp2_with (go_at_call 77; refine (toInt_any _ _).mono ?_; rintro e w' ⟨rfl, rfl⟩)
              go_roundw
              case rel => exact ⟨k + 1, by omega, by go_num, HD.out.more _, int_eq (by rw [ed.out, dstep_zero _ k1 k2 k3 (by omega)])⟩
              case measure => simp [intOf]; omega
    · have hk' : l.length = k := by omega
      have HK := Lib.hid hk'
      clear hk'
      go_wp2
      go_ret
      exact ⟨ret_int (by rw [HK.out]), HD.out⟩
end Go.Proofs.Ytlammenejgagdaa
