/-
  The walks of products and hashes of vectors: the program's and the reference's.
-/
import Derived.Test.YtjonaolapbnepaaDistWalks
import Derived.Test.YtjonaolapbnepaaHashPlain
import Derived.Test.YtjonaolapbnepaaCentrePlain
namespace Go.Proofs.Ytjonaolapbnepaa
open Go.RowKit
set_option linter.unusedVariables false

set_option maxHeartbeats 1000000 in
theorem dotOf_any (w : World) (lo hi lo' hi' : Nat) (a b : Option Addr) (cap cap' : Nat) (l m : List Int) (ha : Ints w lo hi a l) (hb : Ints w lo' hi' b m)
    (ca : coordsB l = true) (cb : coordsB m = true) (hlm : l.length ≤ m.length) (hl : l.length ≤ 1000) :
    Calls Try.prog 48 #[.slice a l.length cap, .slice b m.length cap'] w fun e w' => e = .returned (.int .i64 (dot l m l.length)) ∧ w = w' := by
  have hml := hb.len
  have HA := Lib.hid ca
  have HB := Lib.hid cb
  clear ca cb
  go_enter Try.func48, Try.ntmps48
  go_wp2
  go_loop [5, 10] (fun s i => ∃ k : Nat, k ≤ l.length ∧ i = .int .i64 (k : Int) ∧ s = .int .i64 (dot l m k)) (fun _ i => l.length - (intOf i).toNat)
  case atStart => exact ⟨0, Nat.zero_le _, rfl, rfl⟩
  case round =>
    obtain ⟨k, hk, rfl, rfl⟩ := hrel
    have b1 := dot_bd HA.out HB.out k
    by_cases hlt : k < l.length
    · obtain ⟨p, off, rfl, _, _, hc, _⟩ := ha.at_ hlt
      have hkm : k < m.length := Nat.lt_of_lt_of_le hlt hlm
      obtain ⟨p', off', rfl, _, _, hc', _⟩ := hb.at_ hkm
      have hxy := mul_bd (coordsB_at HA.out k) (coordsB_at HB.out k)
      have ed : Hid (dot l m (k + 1) = dot l m k + l.getD k 0 * m.getD k 0) := by show _ = _; rfl
      obtain ⟨x, ex⟩ : ∃ x, l.getD k 0 = x := ⟨_, rfl⟩
      obtain ⟨y, ey⟩ : ∃ y, m.getD k 0 = y := ⟨_, rfl⟩
      rw [ex] at hc hxy ed
      rw [ey] at hc' hxy ed
      clear ex ey
      go_wp2
      go_round
      case rel => exact ⟨k + 1, by omega, by go_num, int_eq (by rw [ed.out])⟩
      case measure => simp [intOf]; omega
    · have hk' : l.length = k := by omega
      have HK := Lib.hid hk'
      clear hk'
      go_wp2
      go_ret
      exact ⟨ret_int (by rw [HK.out]), rfl⟩

set_option maxHeartbeats 1000000 in
theorem specDot (w : World) (lo hi lo' hi' : Nat) (a b : Option Addr) (cap cap' : Nat) (l m : List Int) (ha : Ints w lo hi a l) (hb : Ints w lo' hi' b m)
    (ca : coordsB l = true) (cb : coordsB m = true) (hlm : l.length ≤ m.length) (hl : l.length ≤ 1000) :
    Calls Try.prog 61 #[.slice a l.length cap, .slice b m.length cap'] w fun e w' => e = .returned (.int .i64 (dot l m l.length)) ∧ Drawn w w' := by
  have hml := hb.len
  have HA := Lib.hid ca
  have HB := Lib.hid cb
  clear ca cb
  go_enter Try.func61, Try.ntmps61
  go_wp2
  go_loopw [5, 6] (fun s i wr => ∃ k : Nat, k ≤ l.length ∧ i = .int .i64 (k : Int) ∧ Drawn w wr ∧ s = .int .i64 (dot l m k)) (fun _ i _ => l.length - (intOf i).toNat)
  case atStart => exact ⟨0, Nat.zero_le _, rfl, Drawn.refl _, rfl⟩
  case round =>
    obtain ⟨k, hk, rfl, hd, rfl⟩ := hrel
    have HD := Lib.hid hd
    replace ha := ha.drawn hd
    replace hb := hb.drawn hd
    clear hd
    have b1 := dot_bd HA.out HB.out k
    by_cases hlt : k < l.length
    · obtain ⟨p, off, rfl, _, _, hc, _⟩ := ha.at_ hlt
      have hkm : k < m.length := Nat.lt_of_lt_of_le hlt hlm
      obtain ⟨p', off', rfl, _, _, hc', _⟩ := hb.at_ hkm
      have hxy := mul_bd (coordsB_at HA.out k) (coordsB_at HB.out k)
      have ed : Hid (dot l m (k + 1) = dot l m k + l.getD k 0 * m.getD k 0) := by show _ = _; rfl
      obtain ⟨x, ex⟩ : ∃ x, l.getD k 0 = x := ⟨_, rfl⟩
      obtain ⟨y, ey⟩ : ∃ y, m.getD k 0 = y := ⟨_, rfl⟩
      rw [ex] at hc hxy ed
      rw [ey] at hc' hxy ed
      clear ex ey
      obtain ⟨s, hs⟩ : ∃ s, dot l m k = s := ⟨_, rfl⟩
      rw [hs] at b1 ed ⊢
      clear hs
      have w1 : IntKind.i64.wrap (x * y) = x * y := wrap_in (by omega)
      have w2 : IntKind.i64.wrap (s + x * y) = s + x * y := wrap_in (by omega)
      go_wp2
      go_quiet (fail)
      clear w1 w2
      go_wp2
      go_roundw
      case rel => exact ⟨k + 1, by omega, by go_num, HD.out.more _, int_eq (by rw [ed.out])⟩
      case measure => simp [intOf]; omega
    · have hk' : l.length = k := by omega
      have HK := Lib.hid hk'
      clear hk'
      go_wp2
      go_ret
      exact ⟨ret_int (by rw [HK.out]), HD.out⟩

set_option maxHeartbeats 1000000 in
theorem hashOf_any (w : World) (lo hi lo' hi' : Nat) (a b : Option Addr) (cap cap' : Nat) (ll : List (List Int)) (m : List Int) (ha : Lists w lo hi a ll) (hb : Ints w lo' hi' b m)
    (hr : RowsOk ll m) (hm : coordsB m = true) (h1 : ll.length ≤ 6) :
    Calls Try.prog 46 #[.slice a ll.length cap, .slice b m.length cap'] w fun e w' => e = .returned (.int .i64 (hash ll m ll.length)) ∧ w = w' := by
  have hml := hb.len
  have HM := Lib.hid hm
  have HR := Lib.hid hr
  clear hm hr
  go_enter Try.func46, Try.ntmps46
  go_wp2
  go_loop [5, 10] (fun s i => ∃ k : Nat, k ≤ ll.length ∧ i = .int .i64 (k : Int) ∧ s = .int .i64 (hash ll m k)) (fun _ i => ll.length - (intOf i).toNat)
  case atStart => exact ⟨0, Nat.zero_le _, rfl, rfl⟩
  case round =>
    obtain ⟨k, hk, rfl, rfl⟩ := hrel
    by_cases hlt : k < ll.length
    · obtain ⟨p, off, aj, cj, rfl, _, _, hc, hx⟩ := ha.at_ hlt
      have hbd := hash_small ll m (show k ≤ 20 by omega)
      obtain ⟨r1, r2, r3⟩ := HR.out k hlt
      obtain ⟨s, hs⟩ : ∃ s, hash ll m k = s := ⟨_, rfl⟩
      obtain ⟨x, ex⟩ : ∃ x, ll.getD k [] = x := ⟨_, rfl⟩
      have hy := Lib.hid (hash_yes hs ex)
      have hn := Lib.hid (hash_no hs ex)
      rw [hs] at hbd ⊢
      rw [ex] at hc hx r1 r2 r3
      clear ex hs
      have D1 := Lib.hid (dotOf_any w _ _ _ _ _ _ cj cap' x m hx hb r1 HM.out r2 r3)
      clear r1 r2 r3
      by_cases h0 : 0 ≤ dot x m x.length
      · go_wp2_with (go_at_call 48; refine D1.out.mono ?_; rintro e w' ⟨rfl, rfl⟩)
        go_round
        case rel => exact ⟨k + 1, by omega, by go_num, int_eq (by rw [hy.out h0])⟩
        case measure => simp [intOf]; omega
      · have hn' := Lib.hid (hn.out h0)
        go_wp2_with (go_at_call 48; refine D1.out.mono ?_; rintro e w' ⟨rfl, rfl⟩)
        go_round
        case rel => exact ⟨k + 1, by omega, by go_num, int_eq (by rw [hn'.out])⟩
        case measure => simp [intOf]; omega
    · have hk' : ll.length = k := by omega
      have HK := Lib.hid hk'
      clear hk'
      go_wp2
      go_ret
      exact ⟨ret_int (by rw [HK.out]), rfl⟩

set_option maxHeartbeats 1000000 in
theorem specHashOf (w : World) (lo hi lo' hi' : Nat) (a b : Option Addr) (cap cap' : Nat) (ll : List (List Int)) (m : List Int) (ha : Lists w lo hi a ll) (hb : Ints w lo' hi' b m)
    (hr : RowsOk ll m) (hm : coordsB m = true) (h1 : ll.length ≤ 6) :
    Calls Try.prog 44 #[.slice a ll.length cap, .slice b m.length cap'] w fun e w' => e = .returned (.int .i64 (hash ll m ll.length)) ∧ Drawn w w' := by
  have hml := hb.len
  have HM := Lib.hid hm
  have HR := Lib.hid hr
  clear hm hr
  go_enter Try.func44, Try.ntmps44
  go_wp2
  go_loopw [5, 6] (fun s i wr => ∃ k : Nat, k ≤ ll.length ∧ i = .int .i64 (k : Int) ∧ Drawn w wr ∧ s = .int .i64 (hash ll m k)) (fun _ i _ => ll.length - (intOf i).toNat)
  case atStart => exact ⟨0, Nat.zero_le _, rfl, Drawn.refl _, rfl⟩
  case round =>
    obtain ⟨k, hk, rfl, hd, rfl⟩ := hrel
    have HD := Lib.hid hd
    replace ha := ha.drawn hd
    replace hb := hb.drawn hd
    clear hd
    by_cases hlt : k < ll.length
    · obtain ⟨p, off, aj, cj, rfl, _, _, hc, hx⟩ := ha.at_ hlt
      have hbd := hash_small ll m (show k ≤ 20 by omega)
      obtain ⟨r1, r2, r3⟩ := HR.out k hlt
      obtain ⟨s, hs⟩ : ∃ s, hash ll m k = s := ⟨_, rfl⟩
      obtain ⟨x, ex⟩ : ∃ x, ll.getD k [] = x := ⟨_, rfl⟩
      have hy := Lib.hid (hash_yes hs ex)
      have hn := Lib.hid (hash_no hs ex)
      rw [hs] at hbd ⊢
      rw [ex] at hc hx r1 r2 r3
      clear ex hs
      have D1 := Lib.hid (specDot wr _ _ _ _ _ _ cj cap' x m hx hb r1 HM.out r2 r3)
      clear r1 r2 r3
      by_cases h0 : 0 ≤ dot x m x.length
      · go_wp2_with (first | (go_at_call 61; refine D1.out.mono ?_; rintro e w' ⟨rfl, hd⟩; have HE := Lib.hid hd; clear hd) | (go_at_call 60; refine (toInt_any _ _).mono ?_; rintro e w' ⟨rfl, rfl⟩))
        go_roundw
        case rel => exact ⟨k + 1, by omega, by go_num, HD.out.trans HE.out, int_eq (by rw [hy.out h0]; omega)⟩
        case measure => simp [intOf]; omega
      · have hn' := Lib.hid (hn.out h0)
        go_wp2_with (first | (go_at_call 61; refine D1.out.mono ?_; rintro e w' ⟨rfl, hd⟩; have HE := Lib.hid hd; clear hd) | (go_at_call 60; refine (toInt_any _ _).mono ?_; rintro e w' ⟨rfl, rfl⟩))
        go_roundw
        case rel => exact ⟨k + 1, by omega, by go_num, HD.out.trans HE.out, int_eq (by rw [hn'.out]; omega)⟩
        case measure => simp [intOf]; omega
    · have hk' : ll.length = k := by omega
      have HK := Lib.hid hk'
      clear hk'
      go_wp2
      go_ret
      exact ⟨ret_int (by rw [HK.out]), HD.out⟩
end Go.Proofs.Ytjonaolapbnepaa
