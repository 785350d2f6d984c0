/-
  For all arguments SpreadOf of the program returns what the reference returns, and leaves its arguments as they were. No condition.
-/
import Derived.Test.YtelcnjdemepmfaaRows
import Derived.Test.YtelcnjdemepmfaaClusWalks
import Derived.Test.YtelcnjdemepmfaaItemExact
import Derived.Test.YtelcnjdemepmfaaArgs
import Derived.Test.YtelcnjdemepmfaaArgsItems
import Derived.ProofKit
import Derived.OpenShut
import Derived.ShutString
import Derived.ChangeOld
namespace Go.Proofs.Ytelcnjdemepmfaa.fnExactSpreadOf
open Go.ChangeShapes Go.WideShapes Go.ChangeAt Go.RowKit
set_option linter.unusedVariables false

set_option maxHeartbeats 4000000 in
theorem walk (a0 : Option Addr) (cap0 : Nat) (z0 : List (List Int)) (a1 : Option Addr) (cap1 : Nat) (z1 : List It) (w : World) (w0 : Lists w 0 w.heap.size a0 z0 ∧ Cap z0.length cap0) (w1 : Items w 0 w.heap.size a1 z1 ∧ Cap z1.length cap1) :
    Calls Try.prog 3 #[.slice a0 z0.length cap0, .slice a1 z1.length cap1] w fun e w' => e = .returned (.bool true) ∧ Below w.heap.size w w' := by
  have HB : Hid (Below w.heap.size w w) := Lib.hid (Below.refl _ _)
  obtain ⟨A0, -⟩ := w0
  have hlen0 := A0.len
  obtain ⟨A1, -⟩ := w1
  have hlen1 := A1.len
  have hWW : w.heap.size ≤ w.heap.size := Nat.le_refl _
  go_enter Try.func3, Try.ntmps3
  have r0 : (0 : Int) ≤ 1048576 := by omega
  have rr : (1048576 : Int) ≤ 1048576 := by omega
  go_wp2_with fail
  refine (szIntSS_any _ _ _ _ _ z0 _ A0 r0 rr).mono ?_
  rintro e w12 ⟨lf0, rfl, hlf0, rfl⟩
  rcases hlf0 with rfl | ⟨p0, q0, hLL0⟩
  · go_wp2_with fail
    go_ret
    exact ⟨rfl, HB.out⟩
  have qq0 : lf0 ≤ 1048576 := by omega
  have HL0 := Lib.hid (hLL0.mono rr)
  clear hLL0
  go_wp2_with fail
  refine (szItemS_any _ _ _ _ _ z1 _ A1 p0 qq0).mono ?_
  rintro e w13 ⟨lf1, rfl, hlf1, hmk⟩
  have hsw13 := hmk.size
  replace A0 := A0.below hmk
  replace A1 := A1.below hmk
  replace HB := Lib.hid (HB.out.trans (hmk.mono HB.out.size))
  clear hmk
  rcases hlf1 with rfl | ⟨p1, q1, hLL1⟩
  · go_wp2_with fail
    go_ret
    exact ⟨rfl, HB.out⟩
  have qq1 : lf1 ≤ 1048576 := by omega
  have HL1 := Lib.hid (hLL1.mono qq0)
  clear hLL1
  obtain ⟨rv, hrv⟩ : ∃ rv, sprV z0 z1 = rv := ⟨_, rfl⟩
  have HRV := Lib.hid hrv
  clear hrv
  go_wp2_with fail
  refine (toIntSS_any _ _ _ _ _ z0 A0 HL0.out).mono ?_
  rintro e w14 ⟨bsT0, rfl, hkT0, hmk⟩
  have hsw14 := hmk.size
  replace A0 := A0.below hmk
  replace A1 := A1.below hmk
  replace HB := Lib.hid (HB.out.trans (hmk.mono HB.out.size))
  have T0 := Lib.hid (SSIn.of_at hkT0)
  clear hkT0
  clear hmk
  go_wp2_with fail
  refine (toItemS_any _ _ _ _ _ z1 A1 HL1.out).mono ?_
  rintro e w15 ⟨bsT1, rfl, hkT1, hmk⟩
  have hsw15 := hmk.size
  replace A0 := A0.below hmk
  replace A1 := A1.below hmk
  replace T0 := Lib.hid (T0.out.below hmk)
  replace HB := Lib.hid (HB.out.trans (hmk.mono HB.out.size))
  have T1 := Lib.hid hkT1
  clear hkT1
  clear hmk
  go_wp2_with fail
  have C := specSpreadOf _ _ _ _ _ _ _ z0.length z1.length z0 z1 T0.out.lists T1.out.items
  rw [HRV.out] at C
  refine (C).mono ?_
  rintro e w16 ⟨rfl, hmk⟩
  have hsw16 := hmk.size
  replace A0 := A0.below hmk
  replace A1 := A1.below hmk
  replace T0 := Lib.hid (T0.out.below hmk)
  replace T1 := Lib.hid (T1.out.below hmk)
  replace HB := Lib.hid (HB.out.trans (hmk.mono HB.out.size))
  clear hmk
  clear C
  clear T0
  clear T1
  go_wp2_with fail
  refine (toIntSS_any _ _ _ _ _ z0 A0 HL0.out).mono ?_
  rintro e w17 ⟨bsX0, rfl, hkX0, hmk⟩
  have hsw17 := hmk.size
  replace A0 := A0.below hmk
  replace A1 := A1.below hmk
  replace HB := Lib.hid (HB.out.trans (hmk.mono HB.out.size))
  have X0 := Lib.hid (SSIn.of_at hkX0)
  clear hkX0
  clear hmk
  go_wp2_with fail
  refine (toItemS_any _ _ _ _ _ z1 A1 HL1.out).mono ?_
  rintro e w18 ⟨bsX1, rfl, hkX1, hmk⟩
  have hsw18 := hmk.size
  replace A0 := A0.below hmk
  replace A1 := A1.below hmk
  replace X0 := Lib.hid (X0.out.below hmk)
  replace HB := Lib.hid (HB.out.trans (hmk.mono HB.out.size))
  have X1 := Lib.hid hkX1
  clear hkX1
  clear hmk
  go_wp2_with fail
  have C := implSpreadOf _ _ _ _ _ _ _ z0.length z1.length z0 z1 X0.out.lists X1.out.items
  rw [HRV.out] at C
  refine (C).mono ?_
  rintro e w19 ⟨rfl, hmk⟩
  have hsw19 := hmk.size
  replace A0 := A0.below hmk
  replace A1 := A1.below hmk
  replace X0 := Lib.hid (X0.out.below hmk)
  replace X1 := Lib.hid (X1.out.below hmk)
  replace HB := Lib.hid (HB.out.trans (hmk.mono HB.out.size))
  clear hmk
  clear C
  go_wp2_with fail
  refine (toIntSS_any _ _ _ _ _ z0 A0 HL0.out).mono ?_
  rintro e w20 ⟨bsY0, rfl, hkY0, hmk⟩
  have hsw20 := hmk.size
  replace A0 := A0.below hmk
  replace A1 := A1.below hmk
  replace X0 := Lib.hid (X0.out.below hmk)
  replace X1 := Lib.hid (X1.out.below hmk)
  replace HB := Lib.hid (HB.out.trans (hmk.mono HB.out.size))
  have Y0 := Lib.hid (SSIn.of_at hkY0)
  clear hkY0
  clear hmk
  go_wp2_with fail
  refine (eqIntSS_any _ _ _ _ _ _ _ _ _ z0 z0 X0.out.lists Y0.out.lists).mono ?_
  rintro e w21 ⟨rfl, hmk⟩
  have hsw21 := size_drawn hmk
  replace A0 := A0.drawn hmk
  replace A1 := A1.drawn hmk
  replace X0 := Lib.hid (X0.out.drawn hmk)
  replace X1 := Lib.hid (X1.out.drawn hmk)
  replace HB := Lib.hid (HB.out.trans hmk.below)
  rw [eqLL_self]
  clear hmk
  clear Y0
  go_wp2_with fail
  refine (toItemS_any _ _ _ _ _ z1 A1 HL1.out).mono ?_
  rintro e w22 ⟨bsY1, rfl, hkY1, hmk⟩
  have hsw22 := hmk.size
  replace A0 := A0.below hmk
  replace A1 := A1.below hmk
  replace X0 := Lib.hid (X0.out.below hmk)
  replace X1 := Lib.hid (X1.out.below hmk)
  replace HB := Lib.hid (HB.out.trans (hmk.mono HB.out.size))
  have Y1 := Lib.hid hkY1
  clear hkY1
  clear hmk
  go_wp2_with fail
  refine (eqItemS_same _ _ _ _ _ _ _ _ _ z1 X1.out.items Y1.out.items).mono ?_
  rintro e w23 ⟨rfl, hmk⟩
  have hsw23 := hmk.size
  replace A0 := A0.below hmk
  replace A1 := A1.below hmk
  replace X0 := Lib.hid (X0.out.below hmk)
  replace X1 := Lib.hid (X1.out.below hmk)
  replace HB := Lib.hid (HB.out.trans (hmk.mono HB.out.size))
  clear hmk
  clear Y1
  go_wp2_with fail
  go_ret
  exact ⟨rfl, HB.out⟩
theorem own : ownKnob Try.prog.godebug = none := by kernel_rfl
theorem laidOut : laidOutB Try.prog = true := by kernel_rfl

set_option maxRecDepth 100000 in
theorem lifted (os : Os) (started : os.Started) (H : Type) (enc : TypeId × Value → H) :
    ReturnsInHanded {} Try.checked os 3 .any (Rows.fnExactSpreadOfSpec.pre6 enc Try.prog Try.f3 Rows.fnExactSpreadOfRow.domain false) (Rows.fnExactSpreadOfSpec.post enc Try.prog Try.f3 false true false false) := by
  refine returnsInHanded_of_change (C := Try.checked) own started (by kernel_rfl) Try.func3
    (ChangeSpec.witness6 (enc := enc) (C := Try.checked) false ⟨#[], #[.slice none 0 0, .slice none 0 0], []⟩ 8 (by kernel_rfl) (by kernel_rfl) (by kernel_rfl) (by kernel_rfl)) ?_
  intro W base args ds gs before hval0 hW hcnd _
  have hval : ∀ (j : Nat) t v, Try.f3.params[j]? = some t → args[j]? = some v → Value.okWide Try.prog W .any base t v := hval0
  have hW' := hW
  obtain ⟨p, q, hA0, hV, rfl, hfz, hnd⟩ := hW
  have hA : DataW.TrodAll enc Try.prog W 0 (fun _ => true) true Try.f3.params.toList args.toList ds p := hA0
  rw [Try.params3] at hA hval
  obtain ⟨v0, vs0, d0, ds0, p0, q0, hargs, rfl, rfl, h0, r0⟩ := trodAll_cons hA
  obtain ⟨v1, vs1, d1, ds1, p1, q1, rfl, rfl, rfl, h1, r1⟩ := trodAll_cons r0
  obtain ⟨rfl, rfl, rfl⟩ := trodAll_nil r1
  obtain rfl : args = #[v0, v1] := by cases args; simp_all
  obtain ⟨rfl, rfl⟩ := trodVars_none hV
  obtain ⟨a0, len0, cap0, rfl⟩ := okWide_slice Try.underlying22 (hval 0 22 v0 rfl rfl)
  have k0 := h0
  have lt0 : ∀ x ∈ p0, x.block < W.heap.size := by obtain ⟨m, hm⟩ := k0; exact DataW.trod_lt m _ _ _ hm
  obtain ⟨fuel0, hf0⟩ := h0
  obtain ⟨z0, hz0, w0⟩ := lists_of_trod hf0
  subst hz0
  obtain ⟨a1, len1, cap1, rfl⟩ := okWide_slice Try.underlying23 (hval 1 23 v1 rfl rfl)
  have k1 := h1
  have lt1 : ∀ x ∈ p1, x.block < W.heap.size := by obtain ⟨m, hm⟩ := k1; exact DataW.trod_lt m _ _ _ hm
  obtain ⟨fuel1, hf1⟩ := h1
  obtain ⟨z1, hz1, w1⟩ := items_of_trod hf1
  subst hz1
  clear hA0 hval0
  refine (walk a0 cap0 z0 a1 cap1 z1 W w0 w1).mono fun e W' ⟨he, bel⟩ => ?_
  subst he
  exact ⟨_, rfl, _, _, _, [], _, [], hW', trodAll_mk1 (shut_bool Try.underlying4 _), (trodAll_cons_mk (Below.trod laidOut (by kernel_rfl) (of_decide_eq_true (by kernel_rfl)) k0 bel lt0) (trodAll_cons_mk (Below.trod laidOut (by kernel_rfl) (of_decide_eq_true (by kernel_rfl)) k1 bel lt1) trodAll_mk0)), rfl, bel.frame _, fun h => by cases h⟩

theorem over : Rows.fnExactSpreadOfRow.holds Try.pinned (OpenSpec.ofChange Rows.fnExactSpreadOfSpec) :=
  OpenClaim.holds_of_wide 3 Try.f3 rfl rfl rfl rfl rfl rfl rfl ⟨rfl, rfl, rfl, rfl, rfl⟩ rfl rfl rfl rfl rfl (by kernel_rfl) Try.func3 (by kernel_rfl)
    (of_decide_eq_true (by kernel_rfl)) (by unfold Func.isWrapper; first | (rw [if_pos (by decide +kernel)]; kernel_rfl) | (rw [if_neg (by decide +kernel)]; exact ⟨rfl, rfl⟩))
    (fun os started H enc _ => lifted os started H enc)

/-- THE STATEMENT -/
theorem proved : Rows.FnExactSpreadOfSaid :=
  over
#print axioms proved
end Go.Proofs.Ytelcnjdemepmfaa.fnExactSpreadOf
