/-
  The walks of what asks whether items and stores are valid.
-/
import Derived.Test.YtlammenejgagdaaItems
import Derived.Test.YtlammenejgagdaaVecWalks
import Derived.Test.YtlammenejgagdaaInRange
import Derived.BigQuiet
namespace Go.Proofs.Ytlammenejgagdaa
open Go.RowKit
set_option linter.unusedVariables false

set_option maxHeartbeats 1000000 in
theorem isItem_any (w : World) (lo hi : Nat) (a : Option Addr) (cap : Nat) (x : It) (h : Ints w lo hi a x.pos) :
    Calls Try.prog 47 #[.agg #[.int .i64 x.key, .slice a x.pos.length cap, .int .i64 x.tags]] w fun e w' => e = .returned (.bool (itemB x)) ∧ Below w.heap.size w w' := by
  obtain ⟨key, pos, tags⟩ := x
  show Calls Try.prog 47 #[.agg #[.int .i64 key, .slice a pos.length cap, .int .i64 tags]] w _
  have hB : Below w.heap.size w (w.alloc (.cells #[.int .i64 key, .slice a pos.length cap, .int .i64 tags] 39)) := (Below.refl _ _).alloc (Nat.le_refl _) _
  replace h : Ints _ lo hi a pos := h.below hB
  have HB := Lib.hid hB
  clear hB
  have HN := Lib.hid (itemB_no (x := ⟨key, pos, tags⟩))
  have HY := Lib.hid (itemB_mk (x := ⟨key, pos, tags⟩))
  by_cases h1 : 1 ≤ key
  · by_cases h2 : key ≤ 99
    · cases h3 : vecB pos 4
      · go_enter Try.func47, Try.ntmps47
        go_wp2_with fail
        refine (implIsVector _ _ _ _ _ _ 4 h).mono ?_
        rintro e w2 ⟨rfl, rfl⟩
        go_wp2_with fail
        go_ret
        exact ⟨ret_bool (HN.out (by simp [h3])).symm, HB.out⟩
      · by_cases h4 : 0 ≤ tags
        · by_cases h5 : tags ≤ 15
          · go_enter Try.func47, Try.ntmps47
            go_wp2_with fail
            refine (implIsVector _ _ _ _ _ _ 4 h).mono ?_
            rintro e w2 ⟨rfl, rfl⟩
            go_wp2_with fail
            go_ret
            exact ⟨ret_bool (HY.out ⟨h1, h2⟩ h3 ⟨h4, h5⟩).symm, HB.out⟩
          · go_enter Try.func47, Try.ntmps47
            go_wp2_with fail
            refine (implIsVector _ _ _ _ _ _ 4 h).mono ?_
            rintro e w2 ⟨rfl, rfl⟩
            go_wp2_with fail
            go_ret
            exact ⟨ret_bool (by rw [decide_eq_false (show ¬ tags ≤ 15 by omega)]; exact (HN.out (by simp; omega)).symm), HB.out⟩
        · go_enter Try.func47, Try.ntmps47
          go_wp2_with fail
          refine (implIsVector _ _ _ _ _ _ 4 h).mono ?_
          rintro e w2 ⟨rfl, rfl⟩
          go_wp2_with fail
          go_ret
          exact ⟨ret_bool (HN.out (by simp; omega)).symm, HB.out⟩
    · go_enter Try.func47, Try.ntmps47
      go_wp2_with fail
      go_ret
      exact ⟨ret_bool (HN.out (by simp; omega)).symm, HB.out⟩
  · go_enter Try.func47, Try.ntmps47
    go_wp2_with fail
    go_ret
    exact ⟨ret_bool (HN.out (by simp; omega)).symm, HB.out⟩

set_option maxHeartbeats 1000000 in
theorem validItem_any (w : World) (lo hi : Nat) (a : Option Addr) (cap : Nat) (x : It) (h : Ints w lo hi a x.pos) :
    Calls Try.prog 54 #[.agg #[.int .i64 x.key, .slice a x.pos.length cap, .int .i64 x.tags]] w fun e w' => e = .returned (.bool (itemB x)) ∧ Below w.heap.size w w' := by
  obtain ⟨key, pos, tags⟩ := x
  show Calls Try.prog 54 #[.agg #[.int .i64 key, .slice a pos.length cap, .int .i64 tags]] w _
  have hB : Below w.heap.size w (w.alloc (.cells #[.int .i64 key, .slice a pos.length cap, .int .i64 tags] 39)) := (Below.refl _ _).alloc (Nat.le_refl _) _
  replace h : Ints _ lo hi a pos := h.below hB
  have HB := Lib.hid hB
  clear hB
  have e : itemB ⟨key, pos, tags⟩ = (inR key 1 99 && (vecB pos 4 && inR tags 0 15)) := by
    unfold itemB inR
    rw [Bool.decide_and, Bool.decide_and]
  rw [e]
  clear e
  cases i1 : inR key 1 99
  · go_enter Try.func54, Try.ntmps54
    go_wp2_with fail
    refine (inRange_any _ _ _ _).mono ?_
    rintro e w2 ⟨rfl, rfl⟩
    go_wp2_with fail
    go_ret
    exact ⟨rfl, HB.out⟩
  · cases h3 : vecB pos 4
    · go_enter Try.func54, Try.ntmps54
      go_wp2_with fail
      refine (inRange_any _ _ _ _).mono ?_
      rintro e w2 ⟨rfl, rfl⟩
      go_wp2_with fail
      refine (specIsVector _ _ _ _ _ _ h).mono ?_
      rintro e w2 ⟨rfl, rfl⟩
      go_wp2_with fail
      go_ret
      exact ⟨rfl, HB.out⟩
    · go_enter Try.func54, Try.ntmps54
      go_wp2_with fail
      refine (inRange_any _ _ _ _).mono ?_
      rintro e w2 ⟨rfl, rfl⟩
      go_wp2_with fail
      refine (specIsVector _ _ _ _ _ _ h).mono ?_
      rintro e w2 ⟨rfl, rfl⟩
      go_wp2_with fail
      refine (inRange_any _ _ _ _).mono ?_
      rintro e w2 ⟨rfl, rfl⟩
      go_wp2_with fail
      go_ret
      exact ⟨rfl, HB.out⟩
end Go.Proofs.Ytlammenejgagdaa
