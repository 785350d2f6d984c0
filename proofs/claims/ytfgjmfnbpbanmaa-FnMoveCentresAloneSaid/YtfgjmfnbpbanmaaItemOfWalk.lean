/-
  The item that a key stands for, and whether a number is in a list.
-/
import Derived.Test.YtfgjmfnbpbanmaaItemOwn
import Derived.Test.YtfgjmfnbpbanmaaDistWalks
namespace Go.Proofs.Ytfgjmfnbpbanmaa
open Go.RowKit
set_option linter.unusedVariables false

/-- the vector of an item -/
theorem run_at (w : World) (k t : Int) (a : Option Addr) (n c : Nat) : Sem.run Try.prog (Instr.field 39 (.agg #[.int .i64 k, .slice a n c, .int .i64 t]) 1) w = .ok (.slice a n c) w := by kernel_rfl
def ItemPost (w : World) (lo hi : Nat) (x : It) (e : Ending) (w' : World) : Prop :=
  ∃ a c, e = .returned (.agg #[.int .i64 x.key, .slice a x.pos.length c, .int .i64 x.tags]) ∧ Ints w lo hi a x.pos ∧ Below w.heap.size w w'
set_option maxHeartbeats 1000000 in
theorem isIn_any (w : World) (lo hi : Nat) (a : Option Addr) (cap : Nat) (l : List Int) (x : Int) (h : Ints w lo hi a l) :
    Calls Try.prog 25 #[.slice a l.length cap, .int .i64 x] w fun e w' => e = .returned (.bool (l.contains x)) ∧ w = w' := by
  have hlen := h.len
  go_enter Try.func25, Try.ntmps25
  go_wp2_with fail
  go_loop [5] (fun i => ∃ k : Nat, k ≤ l.length ∧ i = .int .i64 (k : Int) ∧ Hid (∀ j, j < k → l.getD j 0 ≠ x)) (fun i => l.length - (intOf i).toNat)
  case atStart => exact ⟨0, Nat.zero_le _, rfl, fun j hj => absurd hj (Nat.not_lt_zero _)⟩
  case round =>
    obtain ⟨k, hk, rfl, HN⟩ := hrel
    by_cases hlt : k < l.length
    · obtain ⟨b, off, rfl, _, _, hc, _⟩ := h.at_ hlt
      have HM := Lib.hid (getD_mem (l := l) (0 : Int) hlt)
      have HK := Lib.hid fun (hx : ¬ l.getD k 0 = x) (j : Nat) (hj : j < k + 1) => (show l.getD j 0 ≠ x from by
        by_cases hjk : j = k
        · subst hjk; exact hx
        · exact HN.out j (by omega))
      obtain ⟨y, ey⟩ : ∃ y, l.getD k 0 = y := ⟨_, rfl⟩
      rw [ey] at hc HM HK
      clear ey
      have hki : (k : Int) < l.length := by omega
      by_cases hxy : y = x
      · subst hxy
        have hb : (y == y) = true := beq_self_eq_true _
        go_wp2_with fail
        go_ret
        exact ⟨ret_bool (by have := HM.out; simpa using this), rfl⟩
      · have hb : (y == x) = false := by rw [beq_eq_false_iff_ne]; exact hxy
        have HK2 := Lib.hid (HK.out hxy)
        clear hxy HK
        go_wp2_with fail
        go_round
        case rel => exact ⟨k + 1, by omega, by go_num, HK2.out⟩
        case measure => simp [intOf]; omega
    · have hke : k = l.length := by omega
      subst hke
      go_wp2_with fail
      go_ret
      refine ⟨ret_bool ?_, rfl⟩
      symm
      rw [← Bool.not_eq_true]
      intro hc
      have hm : x ∈ l := by simpa using hc
      obtain ⟨i, hi, he⟩ := List.getElem_of_mem hm
      exact HN.out i hi (by rw [List.getD_eq_getElem?_getD, List.getElem?_eq_getElem hi, he]; rfl)
end Go.Proofs.Ytfgjmfnbpbanmaa
