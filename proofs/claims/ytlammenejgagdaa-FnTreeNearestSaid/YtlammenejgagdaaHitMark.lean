/-
  Comparing hits, and marking them.
-/
import Derived.Test.YtlammenejgagdaaHits
import Derived.Test.YtlammenejgagdaaHitWalks
import Derived.BigQuiet
namespace Go.Proofs.Ytlammenejgagdaa
open Go.RowKit
set_option linter.unusedVariables false

set_option maxHeartbeats 1000000 in
theorem equalHits_same (w : World) (lo hi lo' hi' : Nat) (a b : Option Addr) (cap cap' : Nat) (ll : List Ht) (h : Hits w lo hi a ll) (h' : Hits w lo' hi' b ll) :
    Calls Try.prog 16 #[.slice a ll.length cap, .slice b ll.length cap'] w fun e w' => e = .returned (.bool true) ∧ Drawn w w' := by
  have hll := h.len
  go_enter Try.func16, Try.ntmps16
  go_wp2_with fail
  go_loopw [5] (fun i wr => ∃ k : Nat, k ≤ ll.length ∧ i = .int .i64 (k : Int) ∧ Hid (Drawn w wr)) (fun i _ => ll.length - (intOf i).toNat)
  case atStart => exact ⟨0, Nat.zero_le _, rfl, Drawn.refl _⟩
  case round =>
    obtain ⟨k, hk, rfl, HB⟩ := hrel
    by_cases hlt : k < ll.length
    · obtain ⟨b1, off, rfl, _, _, c0, c1⟩ := (h.drawn HB.out).at_ hlt
      obtain ⟨b2, off2, rfl, _, _, d0, d1⟩ := (h'.drawn HB.out).at_ hlt
      obtain ⟨x, ex⟩ : ∃ x, ll.getD k Ht.no = x := ⟨_, rfl⟩
      rw [ex] at c0 c1 d0 d1
      have hki : (k : Int) < ll.length := by omega
      clear ex
      go_wp2_with fail
      go_quiet (fail)
      go_wp2_with fail
      go_roundw
      case rel => exact ⟨k + 1, by omega, by go_num, Lib.hid (HB.out.more _)⟩
      case measure => simp [intOf]; omega
    · go_wp2_with fail
      go_ret
      exact ⟨rfl, HB.out⟩
/-- what marking leaves in n hits -/
def upH (k : Int) (n : Nat) : List Ht := (List.range n).map fun (j : Nat) => ⟨k + 2 * (j : Int), k + 2 * (j : Int) + 1⟩
theorem upH_length (k : Int) (n : Nat) : (upH k n).length = n := by unfold upH; simp
theorem upH_get {k : Int} {n j : Nat} (hj : j < n) : (upH k n).getD j Ht.no = ⟨k + 2 * (j : Int), k + 2 * (j : Int) + 1⟩ := by
  unfold upH
  rw [List.getD_eq_getElem?_getD, List.getElem?_map, List.getElem?_range hj]
  rfl
end Go.Proofs.Ytlammenejgagdaa
