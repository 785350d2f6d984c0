/-
  slices.SortStableFunc at the numbers of centres.
-/
import Derived.Test.YtmpoljhdcgdnnaaSortWalks
namespace Go.Proofs.Ytmpoljhdcgdnnaa
open Go.RowKit
set_option linter.unusedVariables false

set_option maxHeartbeats 1000000 in
theorem stableSort (w : World) (G P Q : Nat) (a b : Option Addr) (cap capm c n : Nat) (cs : List (List Int)) (m : List Int) (h : Caught w G P Q a b cap capm cs m) (hv : cenB cs 4 = true) (hm : vecB m 4 = true) (hn : cs.length = n)
    (ho : w.ownsRow G 3 1 (.slice (some ⟨G, 0, none⟩) n c) n ((datI cs m n 1).map (Value.int .i64))) :
    Calls Try.prog 105 #[.slice (some ⟨G, 0, none⟩) n c, .int .i64 (n : Int), .func (.func 90) #[] #[.pointer (some ⟨P, 0, none⟩), .pointer (some ⟨Q, 0, none⟩)]] w (SortedTo w G c n (keyT cs m n)) := by
  have IS := Lib.hid (insertSort w G P Q a b cap capm c n cs m h hv hm hn ho)
  have hn4 : n ≤ 4 := by have := (cenB_len hv).2; omega
  have d1 : decide ((20 : Int) ≤ (n : Int)) = false := decide_eq_false (by omega)
  have d2 : decide ((20 : Int) < (n : Int)) = false := decide_eq_false (by omega)
  clear h hv hm hn ho
  go_enter Try.func105, Try.ntmps105
  go_wp2_with fail
  go_loopw [7, 8] (fun x y wr => x = .int .i64 0 ∧ y = .int .i64 20 ∧ wr = w) (fun _ _ _ => 0)
  case atStart => exact ⟨rfl, rfl, rfl⟩
  case round =>
    obtain ⟨rfl, rfl, rfl⟩ := hrel
    go_wp2_with fail
    refine IS.out.mono ?_
    rintro e w2 ⟨rfl, hs⟩
    have HS := Lib.hid hs
    clear hs
    go_wp2_with fail
    go_loopw [6] (fun x wr => x = .int .i64 20 ∧ wr = w2) (fun _ _ => 0)
    case atStart => exact ⟨rfl, rfl⟩
    case round =>
      obtain ⟨rfl, rfl⟩ := hrel
      go_wp2_with fail
      (try simp only [Exit.inBlock, Exit.then])
      refine bodyPost_ret (v := .tuple #[]) (by simp [results, Try.results105, go_sem]) rfl ?_
      exact ⟨rfl, HS.out⟩
set_option maxHeartbeats 1000000 in
theorem sortStable (w : World) (G P Q : Nat) (a b : Option Addr) (cap capm c n : Nat) (cs : List (List Int)) (m : List Int) (h : Caught w G P Q a b cap capm cs m) (hv : cenB cs 4 = true) (hm : vecB m 4 = true) (hn : cs.length = n)
    (ho : w.ownsRow G 3 1 (.slice (some ⟨G, 0, none⟩) n c) n ((datI cs m n 1).map (Value.int .i64))) :
    Calls Try.prog 89 #[.slice (some ⟨G, 0, none⟩) n c, .func (.func 90) #[] #[.pointer (some ⟨P, 0, none⟩), .pointer (some ⟨Q, 0, none⟩)]] w (SortedTo w G c n (keyT cs m n)) := by
  have IS := Lib.hid (stableSort w G P Q a b cap capm c n cs m h hv hm hn ho)
  clear h hv hm hn ho
  go_enter Try.func89, Try.ntmps89
  go_wp2_with fail
  refine IS.out.mono ?_
  rintro e w2 ⟨rfl, hs⟩
  have HS := Lib.hid hs
  clear hs
  go_wp2_with fail
  (try simp only [Exit.inBlock, Exit.then])
  refine bodyPost_ret (v := .tuple #[]) (by simp [results, Try.results89, go_sem]) rfl ?_
  exact ⟨rfl, HS.out⟩
end Go.Proofs.Ytmpoljhdcgdnnaa
