/-
  For all codes: of the centres and the store that the code draws: SpreadOf is what the reference says, and the sum of the squares of the distances to the nearest centres. No condition.
-/
import Derived.Test.YtelcnjdemepmfaaRows
import Derived.Test.YtelcnjdemepmfaaClusLaws
import Derived.Test.YtelcnjdemepmfaaDrawStoreTops
import Derived.Test.YtelcnjdemepmfaaOneTops
import Derived.ProofKit
import Derived.OpenShut
import Derived.ShutString
import Derived.ChangeOld
namespace Go.Proofs.Ytelcnjdemepmfaa.fnSpreadOf
open Go.ChangeShapes Go.WideShapes Go.ChangeAt Go.RowKit
set_option linter.unusedVariables false

set_option maxHeartbeats 1000000 in
theorem walk (a0 : Option Addr) (len0 cap0 : Nat) (z0 : List Int) (w : World) (w0 : IsRow .u8 w a0 len0 cap0 z0) :
    Calls Try.prog 7 #[.slice a0 len0 cap0] w fun e w' => e = .returned (.bool true) ∧ Below w.heap.size w w' := by
  by_cases hl : 1048576 < len0
  · clear w0
    go_enter Try.func7, Try.ntmps7
    go_wp2
    go_ret
    exact ⟨rfl, Below.refl _ _⟩
  · have H := Lib.hid (bytes_of_row w0 (by omega))
    clear w0
    go_enter Try.func7, Try.ntmps7
    go_wp2_with fail
    refine (DrawSpreadOf_any _ _ _ _ _ H.out).mono ?_
    rintro e w1 ⟨a, b, cap, cap', cs, ll, rfl, ⟨hl, hcap⟩, ⟨hi, hcap2⟩, hq, hb⟩
    have HB := Lib.hid hb
    have hc1 := hcap.1
    have hc2 := hcap.2
    have hc3 := hcap2.1
    have hc4 := hcap2.2
    have hq1 := hq.1
    have hq2 := hq.2
    clear hb hcap hcap2 hq
    go_wp2_with fail

    refine (implSpreadOf _ _ _ _ _ _ _ _ _ cs ll hl hi).mono ?_
    rintro e w2 ⟨rfl, hmk⟩
    replace hl := hl.below hmk
    replace hi := hi.below hmk
    have HSW := Lib.hid hmk.size
    replace HB := Lib.hid (HB.out.trans (hmk.mono HB.out.size))
    clear hmk
    go_wp2_with fail
    refine (specSpreadOf _ _ _ _ _ _ _ _ _ cs ll hl hi).mono ?_
    rintro e w3 ⟨rfl, hmk⟩
    replace hl := hl.below hmk
    replace hi := hi.below hmk
    replace HSW := Lib.hid (Nat.le_trans HSW.out hmk.size)
    replace HB := Lib.hid (HB.out.trans (hmk.mono HB.out.size))
    clear hmk
    cases hv : csB cs ll
    · have he := sprV_no hv
      rw [he]
      go_wp2_with fail
      refine (specSpreadOf _ _ _ _ _ _ _ _ _ cs ll hl hi).mono ?_
      rintro e w4 ⟨rfl, hmk⟩
      replace hl := hl.below hmk
      replace hi := hi.below hmk
      replace HB := Lib.hid (HB.out.trans (hmk.mono HB.out.size))
      clear hmk
      rw [he]
      go_wp2_with fail
      go_ret
      exact ⟨rfl, HB.out⟩
    · have HV := Lib.hid hv
      have hsv := sprV_yes hv
      have hbd := spr_bd hv (Nat.le_refl ll.length)
      have hl16 := storeB_len (csB_store hv)
      have hlc := (cenB_len (csB_cen hv)).1
      have hlc4 := (cenB_len (csB_cen hv)).2
      clear hv
      have HSV := Lib.hid hsv
      rw [hsv]
      obtain ⟨n, en⟩ : ∃ n, spr cs ll ll.length = n := ⟨_, rfl⟩
      rw [en] at hbd ⊢
      have HN := Lib.hid en
      clear en hsv
      go_wp2_with fail
      go_loopw [6, 7] (fun s i wr => ∃ k : Nat, k ≤ ll.length ∧ i = .int .i64 (k : Int) ∧ s = .int .i64 (spr cs ll k) ∧ Hid (Below w3.heap.size w3 wr)) (fun _ i _ => ll.length - (intOf i).toNat)
      case atStart => exact ⟨0, Nat.zero_le _, rfl, rfl, Below.refl _ _⟩
      case round =>
        obtain ⟨k, hk, rfl, rfl, HW⟩ := hrel
        have b0 := spr_bd HV.out hk
        by_cases hlt : k < ll.length
        · have b1 := sprd_bd HV.out hlt
          have HS := Lib.hid (spr_succ cs ll k)
          have HM := Lib.hid (minTo_all HV.out hlt)
          have VP := Lib.hid (storeB_vec (csB_store HV.out) hlt)
          have HM0 : Hid (minTo cs (ll.getD k It.no).pos 0 = 1000000) := Lib.hid rfl
          obtain ⟨s, es⟩ : ∃ s, spr cs ll k = s := ⟨_, rfl⟩
          rw [es] at b0 HS ⊢
          clear es
          obtain ⟨x, ex⟩ : ∃ x, ll.getD k It.no = x := ⟨_, rfl⟩
          rw [ex] at HM VP HM0
          have EX := Lib.hid ex
          clear ex
          go_wp2_with fail
          obtain ⟨wo, hwo⟩ : ∃ wo : World, wo = wr := ⟨_, rfl⟩
          subst hwo
          go_loopw [8, 9] (fun bst c wr => ∃ j : Nat, j ≤ cs.length ∧ c = .int .i64 (j : Int) ∧ bst = .int .i64 (minTo cs x.pos j) ∧ Hid (Below w3.heap.size w3 wr)) (fun _ c _ => cs.length - (intOf c).toNat)
          case atStart => exact ⟨0, Nat.zero_le _, rfl, int_eq HM0.out.symm, HW.out⟩
          case round =>
            obtain ⟨j, hj, rfl, rfl, HW⟩ := hrel
            have b2 := minTo_bd (csB_cen HV.out) VP.out hj
            by_cases hlj : j < cs.length
            · have hs := hi.below HW.out
              have hc := hl.below HW.out
              obtain ⟨bb, off, rfl, _, _, aj, cj, c0, c1, c2, hx, _, _, _⟩ := hs.at_ hlt
              obtain ⟨pc, oc, rfl, _, _, ac, cc, hcc, hcx⟩ : ∃ pc oc, a = some ⟨pc, oc, none⟩ ∧ 0 ≤ pc ∧ pc < w1.heap.size ∧ ∃ ac cc, wr.cell? ⟨pc, oc + j, none⟩ = some (.slice ac (cs.getD j []).length cc) ∧ Ints wr 0 w1.heap.size ac (cs.getD j []) := by
                obtain ⟨pc, oc, ac, cc, h1, h2, h3, h4, h5⟩ := hc.at_ hlj
                exact ⟨pc, oc, h1, h2, h3, ac, cc, h4, h5⟩
              rw [EX.out] at c0 c1 c2 hx
              have VC := Lib.hid (cenB_at (csB_cen HV.out) hlj)
              have HMS := Lib.hid (minTo_succ cs x.pos j)
              obtain ⟨y, ey⟩ : ∃ y, cs.getD j [] = y := ⟨_, rfl⟩
              rw [ey] at hcc hcx VC HMS
              clear ey
              have DD := Lib.hid fun q : Nat => implDistanceOf (wr.drewN q) _ _ _ _ _ _ cc cj y x.pos 3 (hcx.drawn ⟨q, rfl⟩) (hx.drawn ⟨q, rfl⟩) (by omega) VC.out VP.out
              have e4 := vecB_len VC.out
              rw [show y.length = 4 by omega] at DD hcc
              have bd := dst_bd 3 (vecB_coords VC.out) (vecB_coords VP.out) 4
              obtain ⟨d, ed⟩ : ∃ d, dst 3 y x.pos 4 = d := ⟨_, rfl⟩
              rw [ed] at DD HMS bd
              obtain ⟨t, et⟩ : ∃ t, minTo cs x.pos j = t := ⟨_, rfl⟩
              rw [et] at HMS b2 ⊢
              have hji : (j : Int) < cs.length := by omega
              have hki : (k : Int) < ll.length := by omega
              clear ed et e4 hs hc hcx hx
              by_cases hdt : d < t
              · have hd1 : (if d < t then d else t) = d := if_pos hdt
                go_wp2_with fail
                go_quiet ((go_at_call 30; exact quiet_drawn (DD.out _)))
                clear c0 c1 c2 hcc
                go_wp2_with fail
                go_roundw
                case rel => exact ⟨j + 1, by omega, by go_num, int_eq (by rw [HMS.out, if_pos (by omega)]), HW.out.trans (Drawn.below ⟨_, rfl⟩)⟩
                case measure => simp [intOf]; omega
              · go_wp2_with fail
                go_quiet ((go_at_call 30; exact quiet_drawn (DD.out _)))
                clear c0 c1 c2 hcc
                go_wp2_with fail
                go_roundw
                case rel => exact ⟨j + 1, by omega, by go_num, int_eq (by rw [HMS.out, if_neg (by omega)]), HW.out.trans (Drawn.below ⟨_, rfl⟩)⟩
                case measure => simp [intOf]; omega
            · have hje : j = cs.length := by omega
              subst hje
              rw [HM.out]
              obtain ⟨d, ed⟩ : ∃ d, sprd cs ll k = d := ⟨_, rfl⟩
              rw [ed] at HS b1 ⊢
              clear ed b2
              go_wp2_with fail
              go_roundw
              case rel => exact ⟨k + 1, by omega, by go_num, int_eq HS.out.symm, HW.out⟩
              case measure => simp [intOf]; omega
        · have hke : k = ll.length := by omega
          subst hke
          rw [HN.out]
          go_wp2_with fail
          go_ret
          exact ⟨by simp, HB.out.trans (HW.out.mono HB.out.size)⟩
theorem own : ownKnob Try.prog.godebug = none := by kernel_rfl
theorem laidOut : laidOutB Try.prog = true := by kernel_rfl

set_option maxRecDepth 100000 in
theorem lifted (os : Os) (started : os.Started) (H : Type) (enc : TypeId × Value → H) :
    ReturnsInHanded {} Try.checked os 7 .any (Rows.fnSpreadOfSpec.pre6 enc Try.prog Try.f7 Rows.fnSpreadOfRow.domain false) (Rows.fnSpreadOfSpec.post enc Try.prog Try.f7 false true false false) := by
  refine returnsInHanded_of_change (C := Try.checked) own started (by kernel_rfl) Try.func7
    (ChangeSpec.witness6 (enc := enc) (C := Try.checked) false ⟨#[], #[.slice none 0 0], []⟩ 8 (by kernel_rfl) (by kernel_rfl) (by kernel_rfl) (by kernel_rfl)) ?_
  intro W base args ds gs before hval0 hW hcnd _
  have hval : ∀ (j : Nat) t v, Try.f7.params[j]? = some t → args[j]? = some v → Value.okWide Try.prog W .any base t v := hval0
  have hW' := hW
  obtain ⟨p, q, hA0, hV, rfl, hfz, hnd⟩ := hW
  have hA : DataW.TrodAll enc Try.prog W 0 (fun _ => true) true Try.f7.params.toList args.toList ds p := hA0
  rw [Try.params7] at hA hval
  obtain ⟨v0, vs0, d0, ds0, p0, q0, hargs, rfl, rfl, h0, r0⟩ := trodAll_cons hA
  obtain ⟨rfl, rfl, rfl⟩ := trodAll_nil r0
  obtain rfl : args = #[v0] := by cases args; simp_all
  obtain ⟨rfl, rfl⟩ := trodVars_none hV
  obtain ⟨a0, len0, cap0, rfl⟩ := okWide_slice Try.underlying33 (hval 0 33 v0 rfl rfl)
  have k0 := h0
  have lt0 : ∀ x ∈ p0, x.block < W.heap.size := by obtain ⟨m, hm⟩ := k0; exact DataW.trod_lt m _ _ _ hm
  obtain ⟨z0, w0⟩ : ∃ zs, IsRow .u8 W a0 len0 cap0 zs := by
    obtain ⟨fuel, hf⟩ := h0
    rcases open_ints Try.underlying33 Try.underlying5 (by kernel_rfl) hf with ⟨hcs, _⟩ | ⟨x, l, c, zs, hcs, _, hl, hm, hz, _, hcell, hwz⟩
    · simp [Value.cells] at hcs
      obtain ⟨rfl, rfl, rfl⟩ := hcs
      exact ⟨[], .inl ⟨rfl, rfl, rfl, rfl⟩⟩
    · simp [Value.cells] at hcs
      obtain ⟨rfl, rfl, rfl⟩ := hcs
      exact ⟨zs, .inr ⟨_, rfl, hl, hm, by simpa using hz, hcell, hwz⟩⟩
  clear hA0 hval0
  refine (walk a0 len0 cap0 z0 W w0).mono fun e W' ⟨he, bel⟩ => ?_
  subst he
  exact ⟨_, rfl, _, _, _, [], _, [], hW', trodAll_mk1 (shut_bool Try.underlying4 _), (trodAll_cons_mk (Below.trod laidOut (by kernel_rfl) (of_decide_eq_true (by kernel_rfl)) k0 bel lt0) trodAll_mk0), rfl, bel.frame _, fun h => by cases h⟩

theorem over : Rows.fnSpreadOfRow.holds Try.pinned (OpenSpec.ofChange Rows.fnSpreadOfSpec) :=
  OpenClaim.holds_of_wide 7 Try.f7 rfl rfl rfl rfl rfl rfl rfl ⟨rfl, rfl, rfl, rfl, rfl⟩ rfl rfl rfl rfl rfl (by kernel_rfl) Try.func7 (by kernel_rfl)
    (of_decide_eq_true (by kernel_rfl)) (by unfold Func.isWrapper; first | (rw [if_pos (by decide +kernel)]; kernel_rfl) | (rw [if_neg (by decide +kernel)]; exact ⟨rfl, rfl⟩))
    (fun os started H enc _ => lifted os started H enc)

/-- THE STATEMENT -/
theorem proved : Rows.FnSpreadOfSaid :=
  over
#print axioms proved
end Go.Proofs.Ytelcnjdemepmfaa.fnSpreadOf
