/-
  For all codes: of the centres and the store that the code draws: SpreadOf is what the reference says, and with all items as centres it is 0. No condition.
-/
import Derived.Test.YtelcnjdemepmfaaRows
import Derived.Test.YtelcnjdemepmfaaClusLaws
import Derived.Test.YtelcnjdemepmfaaDrawStoreTops
import Derived.ProofKit
import Derived.OpenShut
import Derived.ShutString
import Derived.ChangeOld
namespace Go.Proofs.Ytelcnjdemepmfaa.fnSpreadOfCentre
open Go.ChangeShapes Go.WideShapes Go.ChangeAt Go.RowKit
set_option linter.unusedVariables false

set_option maxHeartbeats 1000000 in
theorem walk (a0 : Option Addr) (len0 cap0 : Nat) (z0 : List Int) (w : World) (w0 : IsRow .u8 w a0 len0 cap0 z0) :
    Calls Try.prog 4 #[.slice a0 len0 cap0] w fun e w' => e = .returned (.bool true) ∧ Below w.heap.size w w' := by
  by_cases hl : 1048576 < len0
  · clear w0
    go_enter Try.func4, Try.ntmps4
    go_wp2
    go_ret
    exact ⟨rfl, Below.refl _ _⟩
  · have H := Lib.hid (bytes_of_row w0 (by omega))
    clear w0
    go_enter Try.func4, Try.ntmps4
    go_wp2_with fail
    refine (DrawSpreadOf_any _ _ _ _ _ H.out).mono ?_
    rintro e w1 ⟨a, b, cap, cap', cs, ll, rfl, ⟨hl, hcap⟩, ⟨hi, hcap2⟩, hq, hb⟩
    have HB := Lib.hid hb
    have hc1 := hcap.1
    have hc2 := hcap.2
    have hc3 := hcap2.1
    have hc4 := hcap2.2
    have hq1 := hq.1
    have hq2 := hq.2
    clear hb hcap hcap2 hq
    go_wp2_with fail

    refine (implSpreadOf _ _ _ _ _ _ _ _ _ cs ll hl hi).mono ?_
    rintro e w2 ⟨rfl, hmk⟩
    replace hl := hl.below hmk
    replace hi := hi.below hmk
    have HSW := Lib.hid hmk.size
    replace HB := Lib.hid (HB.out.trans (hmk.mono HB.out.size))
    clear hmk
    go_wp2_with fail
    refine (specSpreadOf _ _ _ _ _ _ _ _ _ cs ll hl hi).mono ?_
    rintro e w3 ⟨rfl, hmk⟩
    replace hl := hl.below hmk
    replace hi := hi.below hmk
    replace HSW := Lib.hid (Nat.le_trans HSW hmk.size)
    replace HB := Lib.hid (HB.out.trans (hmk.mono HB.out.size))
    clear hmk
    cases hv : csB cs ll
    · have he := sprV_no hv
      rw [he]
      go_wp2_with fail
      refine (specSpreadOf _ _ _ _ _ _ _ _ _ cs ll hl hi).mono ?_
      rintro e w4 ⟨rfl, hmk⟩
      replace hl := hl.below hmk
      replace hi := hi.below hmk
      replace HB := Lib.hid (HB.out.trans (hmk.mono HB.out.size))
      clear hmk
      rw [he]
      go_wp2_with fail
      go_ret
      exact ⟨rfl, HB.out⟩
    · have HV := Lib.hid hv
      have hsv := sprV_yes hv
      have hbd := spr_bd hv (Nat.le_refl ll.length)
      have hl16 := storeB_len (csB_store hv)
      have hlc := (cenB_len (csB_cen hv)).1
      have hlc4 := (cenB_len (csB_cen hv)).2
      have HS13 : Hid (w1.heap.size ≤ w3.heap.size) := HSW
      clear hv
      rw [hsv]
      obtain ⟨n, en⟩ : ∃ n, spr cs ll ll.length = n := ⟨_, rfl⟩
      have HSE := Lib.hid (hsv.trans en)
      rw [en] at hbd ⊢
      clear en hsv
      by_cases h14 : 1 ≤ ll.length ∧ ll.length ≤ 4
      · have h0' : ((ll.length : Int) == 0) = false := by rw [beq_eq_false_iff_ne]; omega
        have h4' : decide ((4 : Int) < (ll.length : Int)) = false := decide_eq_false (by omega)
        have HO := Lib.hid (sprV_own (csB_store HV.out) h14.1 h14.2)
        have HE := Lib.hid (owns_empty w3 w3.heap.size 36 1 (Nat.le_refl _))
        have hl4 := h14.2
        clear h14
        go_wp2_with fail
        go_loopw [6, 7] (fun v i wr => ∃ (k : Nat) (vs : List Value), k ≤ ll.length ∧ i = .int .i64 (k : Int) ∧ Hid (wr.ownsRow w3.heap.size 36 1 v k vs) ∧ Hid (RwsR wr 0 w1.heap.size vs (posL ll k)) ∧ Hid (Below w3.heap.size w3 wr)) (fun _ i _ => ll.length - (intOf i).toNat)
        case atStart => exact ⟨0, [], Nat.zero_le _, rfl, HE.out, ⟨rfl, fun j hj => by simp [posL] at hj⟩, below_alloc _ _⟩
        case round =>
          obtain ⟨k, vs, hk, rfl, HW, HR, HD⟩ := hrel
          by_cases hlt : k < ll.length
          · have hs := hi.below HD.out
            obtain ⟨bb, off, rfl, _, _, aj, cj, c0, c1, c2, hx, hcj, _, _⟩ := hs.at_ hlt
            have HX := Lib.hid hx
            have hvl := Lib.hid HR.out.1
            have HPS := Lib.hid (posL_succ ll k)
            obtain ⟨x, ex⟩ : ∃ x, (ll.getD k It.no).pos = x := ⟨_, rfl⟩
            rw [ex] at c1 HX HPS
            have hsr := HD.out.size
            have hsw := HB.out.size
            have h13 : w1.heap.size ≤ w3.heap.size := HS13.out
            clear ex hs hx
            go_wp2_with (at_builtin; refine append1 rfl _ _ 22 rfl w3.heap.size 36 Try.underlying22 infoInts rfl (by omega) (by omega) _ k vs rfl HW.out [.slice aj x.length cj] rfl rfl (by intro u hu; simp at hu; subst hu; rfl) (by omega) (by omega) ?_; intro v' w4 hown4 hg4; have HO4 := Lib.hid hown4; have HG4 := Lib.hid hg4; clear hown4 hg4)
            have hbk := owns_block HW.out
            have B4 : Below w3.heap.size wr w4 := (Below.refl _ _).grown HG4.out (by omega) hbk
            have U4 : Upd w3.heap.size w4.heap.size wr w4 := ⟨B4.os, B4.tape, B4.output, HG4.out.size, fun j hj hd => by rcases hd with hd | hd; exact B4.block j hd; have := HG4.out.size; omega⟩
            go_roundw
            case rel => exact ⟨k + 1, vs ++ [.slice aj x.length cj], by omega, by go_num, HO4, Lib.hid (by rw [HPS.out]; exact (HR.out.upd U4 (by omega)).snoc (HX.out.upd U4 (by omega))), Lib.hid (HD.out.trans B4)⟩
            case measure => simp [intOf]; omega
          · have hke : k = ll.length := by omega
            subst hke
            obtain ⟨a5, cap5, hv5, hl5⟩ := lists_of_vals (ll := posL ll ll.length) (hi := wr.heap.size) (lo := 0) (by rw [posL_length]; exact HW.out) (HR.out.wide (Nat.le_refl _) (by have h1 := HD.out.size; have h2 : w1.heap.size ≤ w3.heap.size := HS13.out; omega)) (by rw [posL_length]; omega) (Nat.zero_le _) (Nat.le_refl _)
            have C5 := Lib.hid (implSpreadOf wr _ _ _ _ _ _ cap5 cap' (posL ll ll.length) ll hl5 (hi.below HD.out))
            rw [HO.out, posL_length] at C5
            rw [posL_length] at hv5
            subst hv5
            clear hl5
            go_wp2_with fail
            refine C5.out.mono ?_
            rintro e w6 ⟨rfl, hmk⟩
            have HB6 : Hid (Below w.heap.size w w6) := Lib.hid (HB.out.trans ((HD.out.mono HB.out.size).trans (hmk.mono (by have h1 := HB.out.size; have h2 := HD.out.size; omega))))
            clear hmk
            go_wp2_with fail
            go_ret
            exact ⟨rfl, HB6.out⟩
      · by_cases h0 : ll.length = 0
        · have h0' : ((ll.length : Int) == 0) = true := by rw [beq_iff_eq]; omega
          clear h0 h14
          go_wp2_with fail
          refine (specSpreadOf _ _ _ _ _ _ _ _ _ cs ll hl hi).mono ?_
          rintro e w4 ⟨rfl, hmk⟩
          replace hl := hl.below hmk
          replace hi := hi.below hmk
          replace HB := Lib.hid (HB.out.trans (hmk.mono HB.out.size))
          clear hmk
          rw [HSE.out]
          go_wp2_with fail
          go_ret
          exact ⟨by simp, HB.out⟩
        · have h0' : ((ll.length : Int) == 0) = false := by rw [beq_eq_false_iff_ne]; omega
          have h4' : decide ((4 : Int) < (ll.length : Int)) = true := decide_eq_true (by omega)
          clear h0 h14
          go_wp2_with fail
          refine (specSpreadOf _ _ _ _ _ _ _ _ _ cs ll hl hi).mono ?_
          rintro e w4 ⟨rfl, hmk⟩
          replace hl := hl.below hmk
          replace hi := hi.below hmk
          replace HB := Lib.hid (HB.out.trans (hmk.mono HB.out.size))
          clear hmk
          rw [HSE.out]
          go_wp2_with fail
          go_ret
          exact ⟨by simp, HB.out⟩
theorem own : ownKnob Try.prog.godebug = none := by kernel_rfl
theorem laidOut : laidOutB Try.prog = true := by kernel_rfl

set_option maxRecDepth 100000 in
theorem lifted (os : Os) (started : os.Started) (H : Type) (enc : TypeId × Value → H) :
    ReturnsInHanded {} Try.checked os 4 .any (Rows.fnSpreadOfCentreSpec.pre6 enc Try.prog Try.f4 Rows.fnSpreadOfCentreRow.domain false) (Rows.fnSpreadOfCentreSpec.post enc Try.prog Try.f4 false true false false) := by
  refine returnsInHanded_of_change (C := Try.checked) own started (by kernel_rfl) Try.func4
    (ChangeSpec.witness6 (enc := enc) (C := Try.checked) false ⟨#[], #[.slice none 0 0], []⟩ 8 (by kernel_rfl) (by kernel_rfl) (by kernel_rfl) (by kernel_rfl)) ?_
  intro W base args ds gs before hval0 hW hcnd _
  have hval : ∀ (j : Nat) t v, Try.f4.params[j]? = some t → args[j]? = some v → Value.okWide Try.prog W .any base t v := hval0
  have hW' := hW
  obtain ⟨p, q, hA0, hV, rfl, hfz, hnd⟩ := hW
  have hA : DataW.TrodAll enc Try.prog W 0 (fun _ => true) true Try.f4.params.toList args.toList ds p := hA0
  rw [Try.params4] at hA hval
  obtain ⟨v0, vs0, d0, ds0, p0, q0, hargs, rfl, rfl, h0, r0⟩ := trodAll_cons hA
  obtain ⟨rfl, rfl, rfl⟩ := trodAll_nil r0
  obtain rfl : args = #[v0] := by cases args; simp_all
  obtain ⟨rfl, rfl⟩ := trodVars_none hV
  obtain ⟨a0, len0, cap0, rfl⟩ := okWide_slice Try.underlying33 (hval 0 33 v0 rfl rfl)
  have k0 := h0
  have lt0 : ∀ x ∈ p0, x.block < W.heap.size := by obtain ⟨m, hm⟩ := k0; exact DataW.trod_lt m _ _ _ hm
  obtain ⟨z0, w0⟩ : ∃ zs, IsRow .u8 W a0 len0 cap0 zs := by
    obtain ⟨fuel, hf⟩ := h0
    rcases open_ints Try.underlying33 Try.underlying5 (by kernel_rfl) hf with ⟨hcs, _⟩ | ⟨x, l, c, zs, hcs, _, hl, hm, hz, _, hcell, hwz⟩
    · simp [Value.cells] at hcs
      obtain ⟨rfl, rfl, rfl⟩ := hcs
      exact ⟨[], .inl ⟨rfl, rfl, rfl, rfl⟩⟩
    · simp [Value.cells] at hcs
      obtain ⟨rfl, rfl, rfl⟩ := hcs
      exact ⟨zs, .inr ⟨_, rfl, hl, hm, by simpa using hz, hcell, hwz⟩⟩
  clear hA0 hval0
  refine (walk a0 len0 cap0 z0 W w0).mono fun e W' ⟨he, bel⟩ => ?_
  subst he
  exact ⟨_, rfl, _, _, _, [], _, [], hW', trodAll_mk1 (shut_bool Try.underlying4 _), (trodAll_cons_mk (Below.trod laidOut (by kernel_rfl) (of_decide_eq_true (by kernel_rfl)) k0 bel lt0) trodAll_mk0), rfl, bel.frame _, fun h => by cases h⟩

theorem over : Rows.fnSpreadOfCentreRow.holds Try.pinned (OpenSpec.ofChange Rows.fnSpreadOfCentreSpec) :=
  OpenClaim.holds_of_wide 4 Try.f4 rfl rfl rfl rfl rfl rfl rfl ⟨rfl, rfl, rfl, rfl, rfl⟩ rfl rfl rfl rfl rfl (by kernel_rfl) Try.func4 (by kernel_rfl)
    (of_decide_eq_true (by kernel_rfl)) (by unfold Func.isWrapper; first | (rw [if_pos (by decide +kernel)]; kernel_rfl) | (rw [if_neg (by decide +kernel)]; exact ⟨rfl, rfl⟩))
    (fun os started H enc _ => lifted os started H enc)

/-- THE STATEMENT -/
theorem proved : Rows.FnSpreadOfCentreSaid :=
  over
#print axioms proved
end Go.Proofs.Ytelcnjdemepmfaa.fnSpreadOfCentre
