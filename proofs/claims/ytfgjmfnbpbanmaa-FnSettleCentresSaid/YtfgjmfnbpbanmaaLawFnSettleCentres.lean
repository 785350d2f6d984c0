/-
  For all codes: of the centres and the store that the code draws: SettleCentres is what the reference says; settled centres stay where they are, and are valid. No condition.
-/
import Derived.Test.YtfgjmfnbpbanmaaRows
import Derived.Test.YtfgjmfnbpbanmaaSettleWalks
import Derived.Test.YtfgjmfnbpbanmaaDrawStoreTops
import Derived.Test.YtfgjmfnbpbanmaaEqWalks
import Derived.Test.YtfgjmfnbpbanmaaVecTops
import Derived.ProofKit
import Derived.OpenShut
import Derived.ShutString
import Derived.ChangeOld
namespace Go.Proofs.Ytfgjmfnbpbanmaa.fnSettleCentres
open Go.ChangeShapes Go.WideShapes Go.ChangeAt Go.RowKit
set_option linter.unusedVariables false

set_option maxHeartbeats 1000000 in
theorem walk (a0 : Option Addr) (len0 cap0 : Nat) (z0 : List Int) (w : World) (w0 : IsRow .u8 w a0 len0 cap0 z0) :
    Calls Try.prog 8 #[.slice a0 len0 cap0] w fun e w' => e = .returned (.bool true) ∧ Below w.heap.size w w' := by
  by_cases hl : 1048576 < len0
  · clear w0
    go_enter Try.func8, Try.ntmps8
    go_wp2
    go_ret
    exact ⟨rfl, Below.refl _ _⟩
  · have H := Lib.hid (bytes_of_row w0 (by omega))
    clear w0
    go_enter Try.func8, Try.ntmps8
    go_wp2_with fail
    refine (DrawSettleCentres_any _ _ _ _ _ H.out).mono ?_
    rintro e w1 ⟨a, b, cap, cap', cs, ll, rfl, ⟨hl, hcap⟩, ⟨hi, hcap2⟩, hq, hb⟩
    have HB := Lib.hid hb
    have hc1 := hcap.1
    have hc2 := hcap.2
    have hc3 := hcap2.1
    have hc4 := hcap2.2
    have hq1 := hq.1
    have hq2 := hq.2
    clear hb hcap hcap2 hq
    go_wp2_with fail

    refine (implSettle_read _ _ _ _ _ _ _ _ _ cs ll hl hi).mono ?_
    rintro e w2 ⟨g, gcap, rfl, hg, hgc, hmk⟩
    replace hl := hl.below hmk
    replace hi := hi.below hmk
    replace HB := Lib.hid (HB.out.trans (hmk.mono HB.out.size))
    clear hmk
    go_wp2_with fail
    refine (specSettle_read _ _ _ _ _ _ _ _ _ cs ll hl hi).mono ?_
    rintro e w3 ⟨g3, gcap3, rfl, hg3, hgc3, hmk⟩
    replace hl := hl.below hmk
    replace hi := hi.below hmk
    replace hg := hg.below hmk
    replace HB := Lib.hid (HB.out.trans (hmk.mono HB.out.size))
    clear hmk
    go_wp2_with fail
    refine (equalLists_any _ _ _ _ _ _ _ gcap gcap3 _ _ hg hg3).mono ?_
    rintro e w4 ⟨rfl, hdrw⟩
    replace hl := hl.drawn hdrw
    replace hi := hi.drawn hdrw
    replace hg := hg.drawn hdrw
    replace hg3 := hg3.drawn hdrw
    replace HB := Lib.hid (HB.out.trans hdrw.below)
    have HS_w4 := Lib.hid (congrArg Array.size hdrw.heap)
    clear hdrw
    rw [eqLL_self]
    cases hv : csB cs ll
    · rw [setR_no hv]
      go_wp2_with fail
      refine (equalLists_any _ _ _ _ _ _ _ gcap gcap3 _ _ hg hg3).mono ?_
      rintro e w5 ⟨rfl, hdrw⟩
      replace HB := Lib.hid (HB.out.trans hdrw.below)
      have HS_w5 := Lib.hid (congrArg Array.size hdrw.heap)
      clear hdrw
      rw [eqLL_self]
      go_wp2_with fail
      go_ret
      exact ⟨rfl, HB.out⟩
    · have HV := Lib.hid hv
      have hlc := (cenB_len (csB_cen hv)).1
      have hlc4 := (cenB_len (csB_cen hv)).2
      have HLL : Hid ((setL cs ll).length = cs.length) := Lib.hid (by rw [setL_yes hv, itC_len hv])
      have hn8 := rnd_le cs ll
      have HCN : Hid (cenB (setL cs ll) 4 = true) := Lib.hid (by rw [setL_yes hv]; exact csB_cen (itC_csB hv _))
      have HFX : Hid (rnd cs ll < 8 → movV (setL cs ll) ll = setL cs ll) := Lib.hid (fun h => by rw [setL_yes hv]; exact rnd_fix h)
      rw [setR_yes hv]
      obtain ⟨L, eL⟩ : ∃ L, setL cs ll = L := ⟨_, rfl⟩
      obtain ⟨n, en⟩ : ∃ n, rnd cs ll = n := ⟨_, rfl⟩
      rw [eL] at HLL hg hgc hg3 hgc3 HCN HFX ⊢
      rw [en] at hn8 HFX ⊢
      clear eL en hv
      rw [HLL.out] at hgc hgc3 ⊢
      have hd0 : decide ((n : Int) < 0) = false := decide_eq_false (by omega)
      have hd8 : decide ((n : Int) ≤ 8) = true := decide_eq_true (by omega)
      by_cases h8 : n = 8
      · subst h8
        have VC := Lib.hid (implValidCentres w4 _ _ _ gcap L hg)
        rw [HCN.out, HLL.out] at VC
        go_wp2_with fail
        refine VC.out.mono ?_
        rintro e w5 ⟨rfl, rfl⟩
        go_wp2_with fail
        go_ret
        exact ⟨rfl, HB.out⟩
      · have h8' : ((n : Int) == 8) = false := by rw [beq_eq_false_iff_ne]; omega
        have HF2 := Lib.hid (HFX.out (by omega))
        have MC := Lib.hid (implMoveCentres_read w4 _ _ _ _ _ _ gcap cap' L ll hg hi)
        rw [HF2.out, HLL.out] at MC
        clear h8
        go_wp2_with fail
        refine (MC.out).mono ?_
        rintro e w5 ⟨g5, gcap5, rfl, hg5, hgc5, hmk⟩
        replace hl := hl.below hmk
        replace hi := hi.below hmk
        replace hg := hg.below hmk
        replace HB := Lib.hid (HB.out.trans (hmk.mono HB.out.size))
        clear hmk
        have EQ := Lib.hid (equalLists_any w5 _ _ _ _ _ _ gcap5 gcap _ _ hg5 hg)
        rw [eqLL_self, HLL.out] at EQ
        rw [HLL.out] at hgc5 ⊢
        have HG := Lib.hid hg
        clear hg5 hgc5
        go_wp2_with fail
        refine EQ.out.mono ?_
        rintro e w6 ⟨rfl, hd⟩
        have VC := Lib.hid (implValidCentres w6 _ _ _ gcap L (HG.out.drawn hd))
        rw [HCN.out, HLL.out] at VC
        replace HB := Lib.hid (HB.out.trans hd.below)
        clear hd
        go_wp2_with fail
        refine VC.out.mono ?_
        rintro e w7 ⟨rfl, rfl⟩
        go_wp2_with fail
        go_ret
        exact ⟨rfl, HB.out⟩
theorem own : ownKnob Try.prog.godebug = none := by kernel_rfl
theorem laidOut : laidOutB Try.prog = true := by kernel_rfl

set_option maxRecDepth 100000 in
theorem lifted (os : Os) (started : os.Started) (H : Type) (enc : TypeId × Value → H) :
    ReturnsInHanded {} Try.checked os 8 .any (Rows.fnSettleCentresSpec.pre6 enc Try.prog Try.f8 Rows.fnSettleCentresRow.domain false) (Rows.fnSettleCentresSpec.post enc Try.prog Try.f8 false true false false) := by
  refine returnsInHanded_of_change (C := Try.checked) own started (by kernel_rfl) Try.func8
    (ChangeSpec.witness6 (enc := enc) (C := Try.checked) false ⟨#[], #[.slice none 0 0], []⟩ 8 (by kernel_rfl) (by kernel_rfl) (by kernel_rfl) (by kernel_rfl)) ?_
  intro W base args ds gs before hval0 hW hcnd _
  have hval : ∀ (j : Nat) t v, Try.f8.params[j]? = some t → args[j]? = some v → Value.okWide Try.prog W .any base t v := hval0
  have hW' := hW
  obtain ⟨p, q, hA0, hV, rfl, hfz, hnd⟩ := hW
  have hA : DataW.TrodAll enc Try.prog W 0 (fun _ => true) true Try.f8.params.toList args.toList ds p := hA0
  rw [Try.params8] at hA hval
  obtain ⟨v0, vs0, d0, ds0, p0, q0, hargs, rfl, rfl, h0, r0⟩ := trodAll_cons hA
  obtain ⟨rfl, rfl, rfl⟩ := trodAll_nil r0
  obtain rfl : args = #[v0] := by cases args; simp_all
  obtain ⟨rfl, rfl⟩ := trodVars_none hV
  obtain ⟨a0, len0, cap0, rfl⟩ := okWide_slice Try.underlying34 (hval 0 34 v0 rfl rfl)
  have k0 := h0
  have lt0 : ∀ x ∈ p0, x.block < W.heap.size := by obtain ⟨m, hm⟩ := k0; exact DataW.trod_lt m _ _ _ hm
  obtain ⟨z0, w0⟩ : ∃ zs, IsRow .u8 W a0 len0 cap0 zs := by
    obtain ⟨fuel, hf⟩ := h0
    rcases open_ints Try.underlying34 Try.underlying5 (by kernel_rfl) hf with ⟨hcs, _⟩ | ⟨x, l, c, zs, hcs, _, hl, hm, hz, _, hcell, hwz⟩
    · simp [Value.cells] at hcs
      obtain ⟨rfl, rfl, rfl⟩ := hcs
      exact ⟨[], .inl ⟨rfl, rfl, rfl, rfl⟩⟩
    · simp [Value.cells] at hcs
      obtain ⟨rfl, rfl, rfl⟩ := hcs
      exact ⟨zs, .inr ⟨_, rfl, hl, hm, by simpa using hz, hcell, hwz⟩⟩
  clear hA0 hval0
  refine (walk a0 len0 cap0 z0 W w0).mono fun e W' ⟨he, bel⟩ => ?_
  subst he
  exact ⟨_, rfl, _, _, _, [], _, [], hW', trodAll_mk1 (shut_bool Try.underlying4 _), (trodAll_cons_mk (Below.trod laidOut (by kernel_rfl) (of_decide_eq_true (by kernel_rfl)) k0 bel lt0) trodAll_mk0), rfl, bel.frame _, fun h => by cases h⟩

theorem over : Rows.fnSettleCentresRow.holds Try.pinned (OpenSpec.ofChange Rows.fnSettleCentresSpec) :=
  OpenClaim.holds_of_wide 8 Try.f8 rfl rfl rfl rfl rfl rfl rfl ⟨rfl, rfl, rfl, rfl, rfl⟩ rfl rfl rfl rfl rfl (by kernel_rfl) Try.func8 (by kernel_rfl)
    (of_decide_eq_true (by kernel_rfl)) (by unfold Func.isWrapper; first | (rw [if_pos (by decide +kernel)]; kernel_rfl) | (rw [if_neg (by decide +kernel)]; exact ⟨rfl, rfl⟩))
    (fun os started H enc _ => lifted os started H enc)

/-- THE STATEMENT -/
theorem proved : Rows.FnSettleCentresSaid :=
  over
#print axioms proved
end Go.Proofs.Ytfgjmfnbpbanmaa.fnSettleCentres
