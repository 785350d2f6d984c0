/-
  The place of a key: the program's indexOf, the reference's keyAt.
-/
import Derived.Test.YtlammenejgagdaaCodePlain
import Derived.Test.YtlammenejgagdaaItems
import Derived.Test.YtlammenejgagdaaItemOwn
namespace Go.Proofs.Ytlammenejgagdaa
open Go.RowKit
set_option linter.unusedVariables false

set_option maxHeartbeats 1000000 in
theorem indexClosure (w : World) (P : Nat) (key : Int) (a : Option Addr) (n c : Nat) (xk xt : Int) (hk : w.cell? ⟨P, 0, none⟩ = some (.int .i64 key)) :
    Calls Try.prog 65 #[.agg #[.int .i64 xk, .slice a n c, .int .i64 xt], .pointer (some ⟨P, 0, none⟩)] w fun e w' => e = .returned (.bool (xk == key)) ∧ Below w.heap.size w w' := by
  have HB := Lib.hid (below_alloc w (.cells #[.int .i64 xk, .slice a n c, .int .i64 xt] 39))
  have hk' := cell_later HB.out hk
  obtain ⟨d0, d1, d2⟩ := cells3_new w (.int .i64 xk) (.slice a n c) (.int .i64 xt) 39
  obtain ⟨b, eb⟩ : ∃ b, (xk == key) = b := ⟨_, rfl⟩
  clear hk
  go_enter Try.func65, Try.ntmps65
  go_wp2_with fail
  go_ret
  exact ⟨by rw [eb]; rfl, HB.out⟩
set_option maxHeartbeats 1000000 in
theorem indexFunc_any (w : World) (lo hi : Nat) (b : Option Addr) (cap j P : Nat) (ll : List It) (key : Int) (hI : Items w lo hi b ll) (hd : NoDup ll) (hj : j < ll.length) (he : (ll.getD j It.no).key = key) (hk : w.cell? ⟨P, 0, none⟩ = some (.int .i64 key)) :
    Calls Try.prog 64 #[.slice b ll.length cap, .func (.func 65) #[] #[.pointer (some ⟨P, 0, none⟩)]] w fun e w' => e = .returned (.int .i64 (j : Int)) ∧ Below w.heap.size w w' := by
  have HH := Lib.hid (And.intro hd he)
  have HI := Lib.hid (And.intro hI hk)
  have hlen := hI.len
  clear hd he hI hk
  go_enter Try.func64, Try.ntmps64
  go_wp2_with fail
  go_loopw [8] (fun i wr => ∃ k : Nat, k ≤ j ∧ i = .int .i64 (k : Int) ∧ Hid (Below w.heap.size w wr)) (fun i _ => ll.length - (intOf i).toNat)
  case atStart => exact ⟨0, Nat.zero_le _, rfl, Lib.hid (Below.refl _ _)⟩
  case round =>
    obtain ⟨k, hkj, rfl, HB⟩ := hrel
    have hsr := HB.out.size
    have hlt : k < ll.length := by omega
    obtain ⟨bb, off, rfl, _, _, aj, cj, c0, c1, c2, hx, hcj, hk1, hk2⟩ := (HI.out.1.below HB.out).at_ hlt
    have HKK := Lib.hid fun (h : k ≠ j) => HH.out.1 k j (by omega) hj
    have HEE := Lib.hid HH.out.2
    have hki : (k : Int) < ll.length := by omega
    by_cases hkj2 : k = j
    · subst hkj2
      rw [HEE.out] at c0
      have CC := Lib.hid (indexClosure wr P key aj (ll.getD k It.no).pos.length cj key (ll.getD k It.no).tags (cell_later HB.out HI.out.2))
      rw [show (key == key) = true from beq_self_eq_true _] at CC
      obtain ⟨x, ex⟩ : ∃ x, ll.getD k It.no = x := ⟨_, rfl⟩
      rw [ex] at c1 c2 CC
      clear ex hx hcj hk1 hk2
      go_wp2_with fail
      refine CC.out.mono ?_
      rintro e w2 ⟨rfl, hb2⟩
      have HB2 : Hid (Below w.heap.size w w2) := Lib.hid (HB.out.trans (hb2.mono hsr))
      clear hb2
      go_wp2_with fail
      go_ret
      exact ⟨rfl, HB2.out⟩
    · have hne := HKK.out hkj2
      rw [HEE.out] at hne
      have CC := Lib.hid (indexClosure wr P key aj (ll.getD k It.no).pos.length cj (ll.getD k It.no).key (ll.getD k It.no).tags (cell_later HB.out HI.out.2))
      rw [show ((ll.getD k It.no).key == key) = false by rw [beq_eq_false_iff_ne]; exact hne] at CC
      obtain ⟨x, ex⟩ : ∃ x, ll.getD k It.no = x := ⟨_, rfl⟩
      rw [ex] at c0 c1 c2 CC
      clear ex hx hcj hk1 hk2 hne
      go_wp2_with fail
      refine CC.out.mono ?_
      rintro e w2 ⟨rfl, hb2⟩
      have HB2 : Hid (Below w.heap.size w w2) := Lib.hid (HB.out.trans (hb2.mono hsr))
      clear hb2
      go_wp2_with fail
      go_roundw
      case rel => exact ⟨k + 1, by omega, by go_num, HB2⟩
      case measure => simp [intOf]; omega
set_option maxHeartbeats 1000000 in
theorem indexOf_any (w : World) (lo hi : Nat) (b : Option Addr) (cap j : Nat) (ll : List It) (key : Int) (hI : Items w lo hi b ll) (hd : NoDup ll) (hj : j < ll.length) (he : (ll.getD j It.no).key = key) :
    Calls Try.prog 43 #[.slice b ll.length cap, .int .i64 key] w fun e w' => e = .returned (.int .i64 (j : Int)) ∧ Below w.heap.size w w' := by
  have hB := below_alloc w (.cells #[.int .i64 key] 3)
  have IX := Lib.hid (indexFunc_any (w.alloc (.cells #[.int .i64 key] 3)) lo hi b cap j w.heap.size ll key (hI.below hB) hd hj he (cell_new w _ _ 0))
  have HB := Lib.hid hB
  have hs := hB.size
  clear hI hd he hB
  go_enter Try.func43, Try.ntmps43
  go_wp2_with fail
  refine IX.out.mono ?_
  rintro e w2 ⟨rfl, hb2⟩
  have HB2 : Hid (Below w.heap.size w w2) := Lib.hid (HB.out.trans (hb2.mono hs))
  clear hb2
  go_wp2_with fail
  go_ret
  exact ⟨rfl, HB2.out⟩
set_option maxHeartbeats 1000000 in
theorem keyAt_any (w : World) (lo hi : Nat) (b : Option Addr) (cap j : Nat) (ll : List It) (key : Int) (hI : Items w lo hi b ll) (hd : NoDup ll) (hj : j < ll.length) (he : (ll.getD j It.no).key = key) :
    Calls Try.prog 81 #[.slice b ll.length cap, .int .i64 key] w fun e w' => e = .returned (.int .i64 (j : Int)) ∧ w = w' := by
  have HH := Lib.hid (And.intro hd he)
  have HI := Lib.hid hI
  have hlen := hI.len
  clear hd he hI
  go_enter Try.func81, Try.ntmps81
  go_wp2_with fail
  go_loop [5] (fun i => ∃ k : Nat, k ≤ j ∧ i = .int .i64 (k : Int)) (fun i => ll.length - (intOf i).toNat)
  case atStart => exact ⟨0, Nat.zero_le _, rfl⟩
  case round =>
    obtain ⟨k, hkj, rfl⟩ := hrel
    have hlt : k < ll.length := by omega
    obtain ⟨bb, off, rfl, _, _, aj, cj, c0, c1, c2, hx, hcj, hk1, hk2⟩ := HI.out.at_ hlt
    have HKK := Lib.hid fun (h : k ≠ j) => HH.out.1 k j (by omega) hj
    have HEE := Lib.hid HH.out.2
    have hki : (k : Int) < ll.length := by omega
    by_cases hkj2 : k = j
    · subst hkj2
      rw [HEE.out] at c0
      have hkk : (key == key) = true := beq_self_eq_true _
      clear hx hcj hk1 hk2 c1 c2
      go_wp2_with fail
      go_ret
      exact ⟨rfl, rfl⟩
    · have hne := HKK.out hkj2
      rw [HEE.out] at hne
      have hkk : ((ll.getD k It.no).key == key) = false := by rw [beq_eq_false_iff_ne]; exact hne
      obtain ⟨x, ex⟩ : ∃ x, (ll.getD k It.no).key = x := ⟨_, rfl⟩
      rw [ex] at c0 hkk
      clear ex hx hcj hk1 hk2 hne c1 c2
      go_wp2_with fail
      go_round
      case rel => exact ⟨k + 1, by omega, by go_num⟩
      case measure => simp [intOf]; omega
end Go.Proofs.Ytlammenejgagdaa
