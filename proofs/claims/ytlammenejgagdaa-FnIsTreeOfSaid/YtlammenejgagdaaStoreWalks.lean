/-
  The walks of what asks whether a store is valid: the program's ValidStore, the reference's validStore.
-/
import Derived.Test.YtlammenejgagdaaItemWalks
import Derived.IntWalk
namespace Go.Proofs.Ytlammenejgagdaa
open Go.RowKit
set_option linter.unusedVariables false


set_option maxHeartbeats 2000000 in
theorem implValidStore (w : World) (lo hi : Nat) (a : Option Addr) (cap : Nat) (ll : List It) (h : Items w lo hi a ll) :
    Calls Try.prog 26 #[.slice a ll.length cap] w fun e w' => e = .returned (.bool (storeB ll)) ∧ Below w.heap.size w w' := by
  have hl := h.len
  by_cases h16 : ll.length ≤ 16
  · go_enter Try.func26, Try.ntmps26
    go_wp2_with fail
    go_loopw [10] (fun i wr => ∃ k : Nat, k ≤ ll.length ∧ i = .int .i64 (k : Int) ∧ Hid (Below w.heap.size w wr) ∧ Hid (goodTo ll k = true)) (fun i _ => ll.length - (intOf i).toNat)
    case atStart => exact ⟨0, Nat.zero_le _, rfl, Below.refl _ _, goodTo_zero ll⟩
    case round =>
      obtain ⟨k, hk, rfl, HB, HG⟩ := hrel
      by_cases hlt : k < ll.length
      · have hs := h.below HB.out
        obtain ⟨b, off, rfl, _, hbh, aj, cj, c0, c1, c2, hx, hcj, hk1, hk2⟩ := hs.at_ hlt
        have hprev := Lib.hid (fun h0 => hs.prev hlt h0)
        obtain ⟨x, ex⟩ : ∃ x, ll.getD k It.no = x := ⟨_, rfl⟩
        have HS := Lib.hid (good_step hlt HG.out ex)
        rw [ex] at c0 c1 c2 hx hcj hk1 hk2
        clear ex hcj hk1 hk2 HG
        have hb := below_alloc wr (.cells #[.int .i64 x.key, .slice aj x.pos.length cj, .int .i64 x.tags] 39)
        have hx' := hx.below hb
        obtain ⟨d0, d1, d2⟩ := cells3_new wr (.int .i64 x.key) (.slice aj x.pos.length cj) (.int .i64 x.tags) 39
        have HPB := Lib.hid (fun (o : Nat) (v : Value) (hv : wr.cell? ⟨b, o, none⟩ = some v) => cell_later hb hv)
        replace HB := Lib.hid (HB.out.trans (hb.mono HB.out.size))
        clear hx
        go_wp2_with fail
        clear c0 c1 c2
        obtain ⟨W1, hW1⟩ : ∃ W1, wr.alloc (.cells #[.int .i64 x.key, .slice aj x.pos.length cj, .int .i64 x.tags] 39) = W1 := ⟨_, rfl⟩
        rw [hW1] at d0 d1 d2 hx' HB HPB ⊢
        clear hW1 hb
        have cI := Lib.hid (met_below (fun w' hw' => isItem_any w' lo hi aj cj x (hx'.below hw')))
        have c0 := cell_regrown d0
        have c1 := cell_regrown d1
        have c2 := cell_regrown d2
        clear d0 d1 d2 hs
        cases hv : itemB x
        · have HNv := Lib.hid (HS.out.1 hv)
          rw [hv] at cI
          {
            refine wp_region_quiet_below (by kernel_rfl) (by kernel_rfl) ?_
            repeat (go_big_quiet_step ((go_at_call 47; exact cI.out _ _)))
            refine wpQuiet_nil ?_
            intro _ hw'
            obtain ⟨⟨dq, osq⟩, hw''⟩ := hw'
            subst hw''
            replace HB := Lib.hid (HB.out.trans ((below_regrown W1 dq osq).mono HB.out.size))
            obtain ⟨w2, hw2⟩ : ∃ w2, Go.Sort.grow (redrawn W1 dq) osq = w2 := ⟨_, rfl⟩
            rw [hw2] at HB ⊢
            clear hw2
            go_wp2_with fail
            go_ret
            exact ⟨ret_bool HNv.out.symm, HB.out⟩
          }
        · rw [hv] at cI
          by_cases h0 : k = 0
          · have HYv := Lib.hid (HS.out.2.1 h0 hv)
            subst h0
            refine wp_region_quiet_below (by kernel_rfl) (by kernel_rfl) ?_
            repeat (go_big_quiet_step ((go_at_call 47; exact cI.out _ _)))
            refine wpQuiet_nil ?_
            intro _ hw'
            obtain ⟨⟨dq, osq⟩, hw''⟩ := hw'
            subst hw''
            replace HB := Lib.hid (HB.out.trans ((below_regrown W1 dq osq).mono HB.out.size))
            obtain ⟨w2, hw2⟩ : ∃ w2, Go.Sort.grow (redrawn W1 dq) osq = w2 := ⟨_, rfl⟩
            rw [hw2] at HB ⊢
            clear hw2
            go_wp2_with fail
            go_roundw
            case rel => exact ⟨0 + 1, by omega, by go_num, HB.out, HYv.out⟩
            case measure => simp [intOf]; omega
          · obtain ⟨pk, hpk, hpc⟩ := hprev.out (by omega)
            have HS2 := Lib.hid (HS.out.2.2 pk (by omega) hpk)
            have c3 := cell_regrown (HPB.out _ _ hpc)
            clear hpk hpc HPB HS
            have i1 : IntKind.i64.wrap ((k : Int) - 1) = (k : Int) - 1 := IntWalk.i64_in _ (by omega)
            have i2 : ((k : Int) - 1).toNat = k - 1 := by omega
            have i3 : (0 : Int) ≤ (k : Int) - 1 := by omega
            have i4 : (k : Int) - 1 < ll.length := by omega
            have i5 : 0 < k := by omega
            by_cases hlt2 : pk < x.key
            · have HYv := Lib.hid (HS2.out.1 hv hlt2)
              have hd : decide (x.key ≤ pk) = false := decide_eq_false (by omega)
              clear hlt2 HS2
              refine wp_region_quiet_below (by kernel_rfl) (by kernel_rfl) ?_
              repeat (go_big_quiet_step ((go_at_call 47; exact cI.out _ _)))
              refine wpQuiet_nil ?_
              intro _ hw'
              obtain ⟨⟨dq, osq⟩, hw''⟩ := hw'
              subst hw''
              replace HB := Lib.hid (HB.out.trans ((below_regrown W1 dq osq).mono HB.out.size))
              obtain ⟨w2, hw2⟩ : ∃ w2, Go.Sort.grow (redrawn W1 dq) osq = w2 := ⟨_, rfl⟩
              rw [hw2] at HB ⊢
              clear hw2
              go_wp2_with fail
              go_roundw
              case rel => exact ⟨k + 1, by omega, by go_num, HB.out, HYv.out⟩
              case measure => simp [intOf]; omega
            · have HNv := Lib.hid (HS2.out.2 (by omega))
              have hd : decide (x.key ≤ pk) = true := decide_eq_true (by omega)
              clear hlt2 HS2
              refine wp_region_quiet_below (by kernel_rfl) (by kernel_rfl) ?_
              repeat (go_big_quiet_step ((go_at_call 47; exact cI.out _ _)))
              refine wpQuiet_nil ?_
              intro _ hw'
              obtain ⟨⟨dq, osq⟩, hw''⟩ := hw'
              subst hw''
              replace HB := Lib.hid (HB.out.trans ((below_regrown W1 dq osq).mono HB.out.size))
              obtain ⟨w2, hw2⟩ : ∃ w2, Go.Sort.grow (redrawn W1 dq) osq = w2 := ⟨_, rfl⟩
              rw [hw2] at HB ⊢
              clear hw2
              go_wp2_with fail
              go_ret
              exact ⟨ret_bool HNv.out.symm, HB.out⟩
      · have HT : Hid (storeB ll = true) := Lib.hid (storeB_mk (by have := HG.out; rw [show k = ll.length by omega] at this; exact this) h16)
        go_wp2_with fail
        go_ret
        exact ⟨ret_bool HT.out.symm, HB.out⟩
  · have HN := Lib.hid (storeB_no_len h16)
    go_enter Try.func26, Try.ntmps26
    go_wp2_with fail
    go_ret
    exact ⟨ret_bool HN.out.symm, Below.refl _ _⟩
set_option maxHeartbeats 2000000 in
theorem specValidStoreIn (w : World) (lo hi : Nat) (a : Option Addr) (cap : Nat) (ll : List It) (h : Items w lo hi a ll) :
    Calls Try.prog 30 #[.slice a ll.length cap] w fun e w' => e = .returned (.bool (storeB ll)) ∧ Below w.heap.size w w' := by
  have hl := h.len
  go_enter Try.func30, Try.ntmps30
  go_wp2_with fail
  go_loopw [3] (fun i wr => ∃ k : Nat, k ≤ ll.length ∧ i = .int .i64 (k : Int) ∧ Hid (Below w.heap.size w wr) ∧ Hid (goodTo ll k = true)) (fun i _ => ll.length - (intOf i).toNat)
  case atStart => exact ⟨0, Nat.zero_le _, rfl, Below.refl _ _, goodTo_zero ll⟩
  case round =>
    obtain ⟨k, hk, rfl, HB, HG⟩ := hrel
    by_cases hlt : k < ll.length
    · have hs := h.below HB.out
      obtain ⟨b, off, rfl, _, hbh, aj, cj, c0, c1, c2, hx, hcj, hk1, hk2⟩ := hs.at_ hlt
      have hprev := Lib.hid (fun h0 => hs.prev hlt h0)
      obtain ⟨x, ex⟩ : ∃ x, ll.getD k It.no = x := ⟨_, rfl⟩
      have HS := Lib.hid (good_step hlt HG.out ex)
      rw [ex] at c0 c1 c2 hx hcj hk1 hk2
      clear ex hcj hk1 hk2 HG
      have cI := Lib.hid (met_below (fun w' hw' => validItem_any w' lo hi aj cj x (hx.below hw')))
      replace c0 := cell_regrown c0
      replace c1 := cell_regrown c1
      replace c2 := cell_regrown c2
      clear hs
      cases hv : itemB x
      · have HNv := Lib.hid (HS.out.1 hv)
        rw [hv] at cI
        go_wp2_with fail
        refine wp_region_quiet_below (by kernel_rfl) (by kernel_rfl) ?_
        repeat (go_big_quiet_step ((go_at_call 54; exact cI.out _ _)))
        refine wpQuiet_nil ?_
        intro _ hw'
        obtain ⟨⟨dq, osq⟩, hw''⟩ := hw'
        subst hw''
        replace HB := Lib.hid (HB.out.trans ((below_regrown wr dq osq).mono HB.out.size))
        obtain ⟨w2, hw2⟩ : ∃ w2, Go.Sort.grow (redrawn wr dq) osq = w2 := ⟨_, rfl⟩
        rw [hw2] at HB ⊢
        clear hw2
        go_wp2_with fail
        go_ret
        exact ⟨ret_bool HNv.out.symm, HB.out⟩
      · rw [hv] at cI
        by_cases h0 : k = 0
        · have HYv := Lib.hid (HS.out.2.1 h0 hv)
          subst h0
          simp only [Nat.zero_mul, Nat.add_zero] at c0 c1 c2
          go_wp2_with fail
          refine wp_region_quiet_below (by kernel_rfl) (by kernel_rfl) ?_
          repeat (go_big_quiet_step ((go_at_call 54; exact cI.out _ _)))
          refine wpQuiet_nil ?_
          intro _ hw'
          obtain ⟨⟨dq, osq⟩, hw''⟩ := hw'
          subst hw''
          replace HB := Lib.hid (HB.out.trans ((below_regrown wr dq osq).mono HB.out.size))
          obtain ⟨w2, hw2⟩ : ∃ w2, Go.Sort.grow (redrawn wr dq) osq = w2 := ⟨_, rfl⟩
          rw [hw2] at HB ⊢
          clear hw2
          go_wp2_with fail
          go_roundw
          case rel => exact ⟨0 + 1, by omega, by go_num, HB.out, HYv.out⟩
          case measure => simp [intOf]; omega
        · obtain ⟨pk, hpk, hpc⟩ := hprev.out (by omega)
          have HS2 := Lib.hid (HS.out.2.2 pk (by omega) hpk)
          have c3 := cell_regrown hpc
          clear hpk hpc HS
          have i1 : IntKind.i64.wrap ((k : Int) - 1) = (k : Int) - 1 := IntWalk.i64_in _ (by omega)
          have i2 : ((k : Int) - 1).toNat = k - 1 := by omega
          have i3 : (0 : Int) ≤ (k : Int) - 1 := by omega
          have i4 : (k : Int) - 1 < ll.length := by omega
          have i5 : 0 < k := by omega
          by_cases hlt2 : pk < x.key
          · have HYv := Lib.hid (HS2.out.1 hv hlt2)
            have hd : decide (x.key ≤ pk) = false := decide_eq_false (by omega)
            clear hlt2 HS2
            go_wp2_with fail
            refine wp_region_quiet_below (by kernel_rfl) (by kernel_rfl) ?_
            repeat (go_big_quiet_step ((go_at_call 54; exact cI.out _ _)))
            refine wpQuiet_nil ?_
            intro _ hw'
            obtain ⟨⟨dq, osq⟩, hw''⟩ := hw'
            subst hw''
            replace HB := Lib.hid (HB.out.trans ((below_regrown wr dq osq).mono HB.out.size))
            obtain ⟨w2, hw2⟩ : ∃ w2, Go.Sort.grow (redrawn wr dq) osq = w2 := ⟨_, rfl⟩
            rw [hw2] at HB ⊢
            clear hw2
            go_wp2_with fail
            go_roundw
            case rel => exact ⟨k + 1, by omega, by go_num, HB.out, HYv.out⟩
            case measure => simp [intOf]; omega
          · have HNv := Lib.hid (HS2.out.2 (by omega))
            have hd : decide (x.key ≤ pk) = true := decide_eq_true (by omega)
            clear hlt2 HS2
            go_wp2_with fail
            refine wp_region_quiet_below (by kernel_rfl) (by kernel_rfl) ?_
            repeat (go_big_quiet_step ((go_at_call 54; exact cI.out _ _)))
            refine wpQuiet_nil ?_
            intro _ hw'
            obtain ⟨⟨dq, osq⟩, hw''⟩ := hw'
            subst hw''
            replace HB := Lib.hid (HB.out.trans ((below_regrown wr dq osq).mono HB.out.size))
            obtain ⟨w2, hw2⟩ : ∃ w2, Go.Sort.grow (redrawn wr dq) osq = w2 := ⟨_, rfl⟩
            rw [hw2] at HB ⊢
            clear hw2
            go_wp2_with fail
            go_ret
            exact ⟨ret_bool HNv.out.symm, HB.out⟩
    · have HT : Hid (storeB ll = decide ((ll.length : Int) ≤ 16)) := Lib.hid (by unfold storeB; have := HG.out; rw [show k = ll.length by omega] at this; rw [this]; rfl)
      go_wp2_with fail
      go_ret
      exact ⟨ret_bool HT.out.symm, HB.out⟩
end Go.Proofs.Ytlammenejgagdaa

