/-
  The walks of cmp.Or and compareHits.
-/
import Derived.Test.YtmpoljhdcgdnnaaGrewKit
import Derived.Test.YtmpoljhdcgdnnaaSortPlain
import Derived.Test.YtmpoljhdcgdnnaaSortWalks
import Derived.Deep.RegionWith
import Derived.Deep.RegionHeld3
import Derived.Deep.RegionLaw
import Derived.BigQuiet
import Derived.StillTailTactics
namespace Go.Proofs.Ytmpoljhdcgdnnaa
open Go.RowKit
set_option linter.unusedVariables false

/-- the first that is not zero -/
def orI (a b : Int) : Int := if a = 0 then b else a
theorem orI_cmp (a b c d : Int) : orI (cmpI a b) (cmpI c d) < 0 ↔ a < b ∨ (a = b ∧ c < d) := by
  unfold orI cmpI
  split <;> split <;> (try split) <;> (try split) <;> (try split) <;> omega
set_option maxHeartbeats 1000000 in
theorem or_any (w : World) (B : Nat) (a b : Int) (h0 : w.cell? ⟨B, 0, none⟩ = some (.int .i64 a)) (h1 : w.cell? ⟨B, 1, none⟩ = some (.int .i64 b)) :
    Calls Try.prog 110 #[.slice (some ⟨B, 0, none⟩) 2 2] w fun e w' => e = .returned (.int .i64 (orI a b)) ∧ w = w' := by
  by_cases ha : a = 0
  · subst ha
    have e : orI 0 b = b := rfl
    rw [e]
    go_enter Try.func110, Try.ntmps110
    go_wp2_with fail
    go_loop [8] (fun i => ∃ k : Nat, k ≤ 2 ∧ i = .int .i64 (k : Int) ∧ (k = 2 → b = 0)) (fun i => 2 - (intOf i).toNat)
    case atStart => exact ⟨0, by omega, rfl, fun h => absurd h (by omega)⟩
    case round =>
      obtain ⟨k, hk, rfl, hb⟩ := hrel
      by_cases h0' : k = 0
      · subst h0'
        go_wp2_with fail
        go_round
        case rel => exact ⟨1, by omega, by go_num, fun h => absurd h (by omega)⟩
        case measure => simp [intOf]
      · by_cases h1' : k = 1
        · subst h1'
          clear hb h0'
          by_cases hb0 : b = 0
          · subst hb0
            go_wp2_with fail
            go_round
            case rel => exact ⟨2, by omega, by go_num, by simp⟩
            case measure => simp [intOf]
          · have hne : (b != 0) = true := by simpa using hb0
            go_wp2_with fail
            go_ret
            exact ⟨rfl, rfl⟩
        · have h2 : k = 2 := by omega
          subst h2
          have hb' := hb rfl
          subst hb'
          clear hb h0' h1'
          go_wp2_with fail
          go_ret
          exact ⟨rfl, rfl⟩
  · have e : orI a b = a := if_neg ha
    rw [e]
    have hne : (a != 0) = true := by simpa using ha
    go_enter Try.func110, Try.ntmps110
    go_wp2_with fail
    go_loop [8] (fun i => i = .int .i64 0) (fun i => 0)
    case atStart => rfl
    case round =>
      subst hrel
      go_wp2_with fail
      go_ret
      exact ⟨rfl, rfl⟩
/-- how two hits compare -/
def cmpH (x y : Ht) : Int := orI (cmpI x.dist y.dist) (cmpI x.key y.key)
theorem cmpH_lt (x y : Ht) : cmpH x y < 0 ↔ ltH x y = true := by rw [ltH_iff]; exact orI_cmp _ _ _ _
set_option maxRecDepth 100000 in
set_option maxHeartbeats 2000000 in
theorem compareHits_any (w : World) (x y : Ht) : Calls Try.prog 100 #[htV x, htV y] w fun e w' => e = .returned (.int .i64 (cmpH x y)) ∧ Grew w w' := by
  obtain ⟨xk, xd⟩ := x
  obtain ⟨yk, yd⟩ := y
  show Calls Try.prog 100 #[.agg #[.int .i64 xk, .int .i64 xd], .agg #[.int .i64 yk, .int .i64 yd]] w fun e w' => e = .returned (.int .i64 (orI (cmpI xd yd) (cmpI xk yk))) ∧ Grew w w'
  have C1 := Lib.hid fun v => compare_any v xd yd
  have C2 := Lib.hid fun v => compare_any v xk yk
  obtain ⟨c1, e1⟩ : ∃ c, cmpI xd yd = c := ⟨_, rfl⟩
  obtain ⟨c2, e2⟩ : ∃ c, cmpI xk yk = c := ⟨_, rfl⟩
  rw [e1] at C1 ⊢
  rw [e2] at C2 ⊢
  clear e1 e2
  have hg1 := Grew.alloc w (.cells #[.int .i64 xk, .int .i64 xd] 32)
  have hg2 := hg1.trans (Grew.alloc _ (.cells #[.int .i64 yk, .int .i64 yd] 32))
  have k0 := cell_later (below_alloc (w.alloc (.cells #[.int .i64 xk, .int .i64 xd] 32)) (.cells #[.int .i64 yk, .int .i64 yd] 32)) (cells2_new w (.int .i64 xk) (.int .i64 xd) 32).1
  have k1 := cell_later (below_alloc (w.alloc (.cells #[.int .i64 xk, .int .i64 xd] 32)) (.cells #[.int .i64 yk, .int .i64 yd] 32)) (cells2_new w (.int .i64 xk) (.int .i64 xd) 32).2
  obtain ⟨j0, j1⟩ := cells2_new (w.alloc (.cells #[.int .i64 xk, .int .i64 xd] 32)) (.int .i64 yk) (.int .i64 yd) 32
  obtain ⟨W1, hW1⟩ : ∃ W1, (w.alloc (.cells #[.int .i64 xk, .int .i64 xd] 32)).alloc (.cells #[.int .i64 yk, .int .i64 yd] 32) = W1 := ⟨_, rfl⟩
  rw [show (w.alloc (.cells #[.int .i64 xk, .int .i64 xd] 32)).heap.size = w.heap.size + 1 by simp] at j0 j1
  rw [hW1] at hg2 k0 k1 j0 j1
  have hsz : W1.heap.size = w.heap.size + 1 + 1 := by rw [← hW1]; simp
  have OR := Lib.hid (show Calls Try.prog 110 #[.slice (some ⟨w.heap.size + 1 + 1, 0, none⟩) 2 2] (W1.drew.alloc (.cells #[.int .i64 c1, .int .i64 c2] 3)) fun e w' => e = .returned (.int .i64 (orI c1 c2)) ∧ W1.drew.alloc (.cells #[.int .i64 c1, .int .i64 c2] 3) = w' from by
    have h := cells2_new W1.drew (.int .i64 c1) (.int .i64 c2) 3
    rw [show W1.drew.heap.size = w.heap.size + 1 + 1 from hsz] at h
    exact or_any _ _ _ _ h.1 h.2)
  have HG := Lib.hid (hg2.trans ((Grew.drawn ⟨1, rfl⟩ : Grew W1 W1.drew).trans (Grew.alloc W1.drew (.cells #[.int .i64 c1, .int .i64 c2] 3))))
  clear hg1 hg2
  go_enter Try.func100, Try.ntmps100
  go_wp2_with fail
  clear hW1
  refine wp_region_still_tail 10 (by kernel_rfl) (by kernel_rfl) ?_
  simp only [List.take_succ_cons, List.take_zero, List.drop_succ_cons, List.drop_zero]
  change wpStill _ _ W1.drew (fun a' => wpList _ _ _ _ a' W1.drew) _ _
  still_step
  still_step
  still_step
  still_step
  still_call ((C1.out _).mono fun _ _ h => ⟨h.1, h.2.symm⟩)
  still_step
  still_step
  still_step
  still_step
  still_call ((C2.out _).mono fun _ _ h => ⟨h.1, h.2.symm⟩)
  refine wpStill_nil ?_
  go_wp2_with fail
  refine OR.out.mono ?_
  rintro e w' ⟨rfl, rfl⟩
  go_wp2_with fail
  go_ret
  exact ⟨rfl, HG.out⟩
end Go.Proofs.Ytmpoljhdcgdnnaa
