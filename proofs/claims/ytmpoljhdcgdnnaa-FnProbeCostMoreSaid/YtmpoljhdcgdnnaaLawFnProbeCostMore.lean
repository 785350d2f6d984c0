/-
  For all codes: of the centres, the store, the vector and the number that the code draws: ProbeCost is what the reference says, does not fall with more probes, and all probes cost all. No condition.
-/
import Derived.Test.YtmpoljhdcgdnnaaRows
import Derived.Test.YtmpoljhdcgdnnaaCostSpec
import Derived.Test.YtmpoljhdcgdnnaaCostPlain
import Derived.Test.YtmpoljhdcgdnnaaDrawProbe
import Derived.ProofKit
import Derived.OpenShut
import Derived.ShutString
import Derived.ChangeOld
namespace Go.Proofs.Ytmpoljhdcgdnnaa.fnProbeCostMore
open Go.ChangeShapes Go.WideShapes Go.ChangeAt Go.RowKit
set_option linter.unusedVariables false

set_option maxHeartbeats 1000000 in
theorem walk (a0 : Option Addr) (len0 cap0 : Nat) (z0 : List Int) (w : World) (w0 : IsRow .u8 w a0 len0 cap0 z0) :
    Calls Try.prog 10 #[.slice a0 len0 cap0] w fun e w' => e = .returned (.bool true) ∧ Below w.heap.size w w' := by
  by_cases hl : 1048576 < len0
  · clear w0
    go_enter Try.func10, Try.ntmps10
    go_wp2
    go_ret
    exact ⟨rfl, Below.refl _ _⟩
  · have H := Lib.hid (bytes_of_row w0 (by omega))
    clear w0
    go_enter Try.func10, Try.ntmps10
    go_wp2_with fail
    refine (DrawProbeCost_any _ _ _ _ _ H.out).mono ?_
    rintro e w1 ⟨a, b, p, cap, cap', capp, cs, ll, m, k, rfl, ⟨hl, hcap⟩, ⟨hi, hcap2⟩, ⟨hm, hcap3⟩, hq, hk, hb⟩
    have HB := Lib.hid hb
    have hc1 := hcap.1
    have hc2 := hcap.2
    have hc3 := hcap2.1
    have hc4 := hcap2.2
    have hc5 := hcap3.1
    have hc6 := hcap3.2
    have hq1 := hq.1
    have hq2 := hq.2.1
    clear hb hcap hcap2 hcap3 hq
    go_wp2_with fail
    refine (implCost _ _ _ _ _ _ _ _ _ _ _ _ _ k cs ll m hl hi hm).mono ?_
    rintro e w2 ⟨rfl, hmk⟩
    replace hl := hl.below hmk
    replace hi := hi.below hmk
    replace hm := hm.below hmk
    replace HB := Lib.hid (HB.out.trans (hmk.mono HB.out.size))
    clear hmk
    go_wp2_with fail
    refine (specCost _ _ _ _ _ _ _ _ _ _ _ _ _ k cs ll m hl hi hm).mono ?_
    rintro e w3 ⟨rfl, hmk⟩
    replace hl := hl.below hmk
    replace hi := hi.below hmk
    replace hm := hm.below hmk
    replace HB := Lib.hid (HB.out.trans (hmk.mono HB.out.size))
    clear hmk
    cases hv : costB cs ll m k
    · have e := costV_no hv
      rw [e]
      go_wp2_with fail
      refine (specCost _ _ _ _ _ _ _ _ _ _ _ _ _ k cs ll m hl hi hm).mono ?_
      rintro e w4 ⟨rfl, hmk⟩
      replace hl := hl.below hmk
      replace hi := hi.below hmk
      replace hm := hm.below hmk
      replace HB := Lib.hid (HB.out.trans (hmk.mono HB.out.size))
      clear hmk
      rw [e]
      clear e
      go_wp2_with fail
      go_ret
      exact ⟨rfl, HB.out⟩
    · have HE := Lib.hid (costV_yes hv)
      have HV := Lib.hid hv
      obtain ⟨v, ev⟩ : ∃ v, costV cs ll m k = v := ⟨_, rfl⟩
      have h0 : 0 ≤ v := by have := HE.out; omega
      have hd0 : decide (v < 0) = false := decide_eq_false (by omega)
      rw [ev]
      have hvv : (v == v) = true := beq_self_eq_true _
      by_cases h4 : k = 4
      · subst h4
        have EV := Lib.hid ev
        clear ev hv
        go_wp2_with fail
        refine (specCost _ _ _ _ _ _ _ _ _ _ _ _ _ 4 cs ll m hl hi hm).mono ?_
        rintro e w4 ⟨rfl, hmk⟩
        replace hl := hl.below hmk
        replace hi := hi.below hmk
        replace hm := hm.below hmk
        replace HB := Lib.hid (HB.out.trans (hmk.mono HB.out.size))
        clear hmk
        rw [EV.out]
        go_wp2_with fail
        go_ret
        exact ⟨rfl, HB.out⟩
      · have h4' : (k == 4) = false := by rw [beq_eq_false_iff_ne]; exact h4
        have hmore := costV_more hv h4
        rw [ev] at hmore
        have hw1 : IntKind.i64.wrap (k + 1) = k + 1 := wrap_in (by omega)
        obtain ⟨u, eu⟩ : ∃ u, costV cs ll m (k + 1) = u := ⟨_, rfl⟩
        rw [eu] at hmore
        have hdu : decide (v ≤ u) = true := decide_eq_true hmore.1
        have EU := Lib.hid eu
        have HM := Lib.hid hmore.2
        clear ev hv h4 hmore eu
        go_wp2_with fail
        refine (implCost _ _ _ _ _ _ _ _ _ _ _ _ _ (k + 1) cs ll m hl hi hm).mono ?_
        rintro e w4 ⟨rfl, hmk⟩
        replace hl := hl.below hmk
        replace hi := hi.below hmk
        replace hm := hm.below hmk
        replace HB := Lib.hid (HB.out.trans (hmk.mono HB.out.size))
        clear hmk
        rw [EU.out]
        go_wp2_with fail
        refine (implCost _ _ _ _ _ _ _ _ _ _ _ _ _ 4 cs ll m hl hi hm).mono ?_
        rintro e w5 ⟨rfl, hmk⟩
        replace hl := hl.below hmk
        replace hi := hi.below hmk
        replace hm := hm.below hmk
        replace HB := Lib.hid (HB.out.trans (hmk.mono HB.out.size))
        clear hmk
        rw [HM.out]
        go_wp2_with fail
        go_ret
        exact ⟨rfl, HB.out⟩
theorem own : ownKnob Try.prog.godebug = none := by kernel_rfl
theorem laidOut : laidOutB Try.prog = true := by kernel_rfl

set_option maxRecDepth 100000 in
theorem lifted (os : Os) (started : os.Started) (H : Type) (enc : TypeId × Value → H) :
    ReturnsInHanded {} Try.checked os 10 .any (Rows.fnProbeCostMoreSpec.pre6 enc Try.prog Try.f10 Rows.fnProbeCostMoreRow.domain false) (Rows.fnProbeCostMoreSpec.post enc Try.prog Try.f10 false true false false) := by
  refine returnsInHanded_of_change (C := Try.checked) own started (by kernel_rfl) Try.func10
    (ChangeSpec.witness6 (enc := enc) (C := Try.checked) false ⟨#[], #[.slice none 0 0], []⟩ 8 (by kernel_rfl) (by kernel_rfl) (by kernel_rfl) (by kernel_rfl)) ?_
  intro W base args ds gs before hval0 hW hcnd _
  have hval : ∀ (j : Nat) t v, Try.f10.params[j]? = some t → args[j]? = some v → Value.okWide Try.prog W .any base t v := hval0
  have hW' := hW
  obtain ⟨p, q, hA0, hV, rfl, hfz, hnd⟩ := hW
  have hA : DataW.TrodAll enc Try.prog W 0 (fun _ => true) true Try.f10.params.toList args.toList ds p := hA0
  rw [Try.params10] at hA hval
  obtain ⟨v0, vs0, d0, ds0, p0, q0, hargs, rfl, rfl, h0, r0⟩ := trodAll_cons hA
  obtain ⟨rfl, rfl, rfl⟩ := trodAll_nil r0
  obtain rfl : args = #[v0] := by cases args; simp_all
  obtain ⟨rfl, rfl⟩ := trodVars_none hV
  obtain ⟨a0, len0, cap0, rfl⟩ := okWide_slice Try.underlying22 (hval 0 22 v0 rfl rfl)
  have k0 := h0
  have lt0 : ∀ x ∈ p0, x.block < W.heap.size := by obtain ⟨m, hm⟩ := k0; exact DataW.trod_lt m _ _ _ hm
  obtain ⟨z0, w0⟩ : ∃ zs, IsRow .u8 W a0 len0 cap0 zs := by
    obtain ⟨fuel, hf⟩ := h0
    rcases open_ints Try.underlying22 Try.underlying5 (by kernel_rfl) hf with ⟨hcs, _⟩ | ⟨x, l, c, zs, hcs, _, hl, hm, hz, _, hcell, hwz⟩
    · simp [Value.cells] at hcs
      obtain ⟨rfl, rfl, rfl⟩ := hcs
      exact ⟨[], .inl ⟨rfl, rfl, rfl, rfl⟩⟩
    · simp [Value.cells] at hcs
      obtain ⟨rfl, rfl, rfl⟩ := hcs
      exact ⟨zs, .inr ⟨_, rfl, hl, hm, by simpa using hz, hcell, hwz⟩⟩
  clear hA0 hval0
  refine (walk a0 len0 cap0 z0 W w0).mono fun e W' ⟨he, bel⟩ => ?_
  subst he
  exact ⟨_, rfl, _, _, _, [], _, [], hW', trodAll_mk1 (shut_bool Try.underlying4 _), (trodAll_cons_mk (Below.trod laidOut (by kernel_rfl) (of_decide_eq_true (by kernel_rfl)) k0 bel lt0) trodAll_mk0), rfl, bel.frame _, fun h => by cases h⟩

theorem over : Rows.fnProbeCostMoreRow.holds Try.pinned (OpenSpec.ofChange Rows.fnProbeCostMoreSpec) :=
  OpenClaim.holds_of_wide 10 Try.f10 rfl rfl rfl rfl rfl rfl rfl ⟨rfl, rfl, rfl, rfl, rfl⟩ rfl rfl rfl rfl rfl (by kernel_rfl) Try.func10 (by kernel_rfl)
    (of_decide_eq_true (by kernel_rfl)) (by unfold Func.isWrapper; first | (rw [if_pos (by decide +kernel)]; kernel_rfl) | (rw [if_neg (by decide +kernel)]; exact ⟨rfl, rfl⟩))
    (fun os started H enc _ => lifted os started H enc)

/-- THE STATEMENT -/
theorem proved : Rows.FnProbeCostMoreSaid :=
  over
#print axioms proved
end Go.Proofs.Ytmpoljhdcgdnnaa.fnProbeCostMore
