/-
  For all lists of lists of ints ValidPlanes of the program returns what the reference returns, and leaves its argument as it was. No condition.
-/
import Derived.Test.YtjonaolapbnepaaRows
import Derived.Test.YtjonaolapbnepaaVecTops
import Derived.Test.YtjonaolapbnepaaExactWalks
import Derived.Test.YtjonaolapbnepaaArgs
import Derived.ProofKit
import Derived.OpenShut
import Derived.ShutString
import Derived.ChangeOld
namespace Go.Proofs.Ytjonaolapbnepaa.fnExactValidPlanes
open Go.ChangeShapes Go.WideShapes Go.ChangeAt Go.RowKit
set_option linter.unusedVariables false

set_option maxHeartbeats 1000000 in
theorem walk (a0 : Option Addr) (cap0 : Nat) (z0 : List (List Int)) (w : World) (w0 : Lists w 0 w.heap.size a0 z0 ∧ Cap z0.length cap0) :
    Calls Try.prog 4 #[.slice a0 z0.length cap0] w fun e w' => e = .returned (.bool true) ∧ Below w.heap.size w w' := by
  obtain ⟨hl, -⟩ := w0
  go_enter Try.func4, Try.ntmps4
  go_wp2_with fail
  refine (szIntSS_any _ _ _ _ _ _ _ hl (by omega) (by omega)).mono ?_
  rintro e w' ⟨r, rfl, hr, rfl⟩
  rcases hr with rfl | ⟨r0, r1, hlen⟩
  · go_wp2_with fail
    go_ret
    exact ⟨rfl, Below.refl _ _⟩
  · have HL := Lib.hid hlen
    clear hlen
    go_wp2_with fail
    refine (toIntSS_any _ _ _ _ _ _ hl HL.out).mono ?_
    rintro e w2 ⟨bs2, rfl, hss2, hb2⟩
    have h2 := hss2.lists
    replace hl := hl.below hb2
    have HB := Lib.hid hb2
    clear hb2 hss2
    go_wp2_with fail
    refine (specValidPlanes _ _ _ _ _ _ h2).mono ?_
    rintro e w' ⟨rfl, rfl⟩
    go_wp2_with fail
    refine (toIntSS_any _ _ _ _ _ _ hl HL.out).mono ?_
    rintro e w3 ⟨bs3, rfl, hss3, hb3⟩
    have h3 := hss3.lists
    replace hl := hl.below hb3
    replace HB := Lib.hid (HB.out.trans (hb3.mono HB.out.size))
    clear hb3 hss3
    go_wp2_with fail
    refine (implValidPlanes _ _ _ _ _ _ h3).mono ?_
    rintro e w' ⟨rfl, rfl⟩
    go_wp2_with fail
    refine (toIntSS_any _ _ _ _ _ _ hl HL.out).mono ?_
    rintro e w4 ⟨bs4, rfl, hss4, hb4⟩
    have h4 := hss4.lists
    replace h3 := h3.below hb4
    replace HB := Lib.hid (HB.out.trans (hb4.mono HB.out.size))
    clear hb4 hss4
    go_wp2_with fail
    refine (eqIntSS_any _ _ _ _ _ _ _ _ _ _ _ h3 h4).mono ?_
    rintro e w5 ⟨rfl, hdrw⟩
    replace HB := Lib.hid (HB.out.trans hdrw.below)
    have HS_w5 := Lib.hid (congrArg Array.size hdrw.heap)
    clear hdrw
    rw [eqLL_self]
    go_wp2_with fail
    go_ret
    exact ⟨rfl, HB.out⟩
theorem own : ownKnob Try.prog.godebug = none := by kernel_rfl
theorem laidOut : laidOutB Try.prog = true := by kernel_rfl

set_option maxRecDepth 100000 in
theorem lifted (os : Os) (started : os.Started) (H : Type) (enc : TypeId × Value → H) :
    ReturnsInHanded {} Try.checked os 4 .any (Rows.fnExactValidPlanesSpec.pre6 enc Try.prog Try.f4 Rows.fnExactValidPlanesRow.domain false) (Rows.fnExactValidPlanesSpec.post enc Try.prog Try.f4 false true false false) := by
  refine returnsInHanded_of_change (C := Try.checked) own started (by kernel_rfl) Try.func4
    (ChangeSpec.witness6 (enc := enc) (C := Try.checked) false ⟨#[], #[.slice none 0 0], []⟩ 8 (by kernel_rfl) (by kernel_rfl) (by kernel_rfl) (by kernel_rfl)) ?_
  intro W base args ds gs before hval0 hW hcnd _
  have hval : ∀ (j : Nat) t v, Try.f4.params[j]? = some t → args[j]? = some v → Value.okWide Try.prog W .any base t v := hval0
  have hW' := hW
  obtain ⟨p, q, hA0, hV, rfl, hfz, hnd⟩ := hW
  have hA : DataW.TrodAll enc Try.prog W 0 (fun _ => true) true Try.f4.params.toList args.toList ds p := hA0
  rw [Try.params4] at hA hval
  obtain ⟨v0, vs0, d0, ds0, p0, q0, hargs, rfl, rfl, h0, r0⟩ := trodAll_cons hA
  obtain ⟨rfl, rfl, rfl⟩ := trodAll_nil r0
  obtain rfl : args = #[v0] := by cases args; simp_all
  obtain ⟨rfl, rfl⟩ := trodVars_none hV
  obtain ⟨a0, len0, cap0, rfl⟩ := okWide_slice Try.underlying22 (hval 0 22 v0 rfl rfl)
  have k0 := h0
  have lt0 : ∀ x ∈ p0, x.block < W.heap.size := by obtain ⟨m, hm⟩ := k0; exact DataW.trod_lt m _ _ _ hm
  obtain ⟨fuel0, hf0⟩ := h0
  obtain ⟨z0, hz0, w0⟩ := lists_of_trod hf0
  subst hz0
  clear hA0 hval0
  refine (walk a0 cap0 z0 W w0).mono fun e W' ⟨he, bel⟩ => ?_
  subst he
  exact ⟨_, rfl, _, _, _, [], _, [], hW', trodAll_mk1 (shut_bool Try.underlying4 _), (trodAll_cons_mk (Below.trod laidOut (by kernel_rfl) (of_decide_eq_true (by kernel_rfl)) k0 bel lt0) trodAll_mk0), rfl, bel.frame _, fun h => by cases h⟩

theorem over : Rows.fnExactValidPlanesRow.holds Try.pinned (OpenSpec.ofChange Rows.fnExactValidPlanesSpec) :=
  OpenClaim.holds_of_wide 4 Try.f4 rfl rfl rfl rfl rfl rfl rfl ⟨rfl, rfl, rfl, rfl, rfl⟩ rfl rfl rfl rfl rfl (by kernel_rfl) Try.func4 (by kernel_rfl)
    (of_decide_eq_true (by kernel_rfl)) (by unfold Func.isWrapper; first | (rw [if_pos (by decide +kernel)]; kernel_rfl) | (rw [if_neg (by decide +kernel)]; exact ⟨rfl, rfl⟩))
    (fun os started H enc _ => lifted os started H enc)

/-- THE STATEMENT -/
theorem proved : Rows.FnExactValidPlanesSaid :=
  over
#print axioms proved
end Go.Proofs.Ytjonaolapbnepaa.fnExactValidPlanes
