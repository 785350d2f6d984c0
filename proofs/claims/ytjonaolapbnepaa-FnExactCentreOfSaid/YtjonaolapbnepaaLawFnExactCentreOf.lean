/-
  For all lists of lists of ints and lists of ints CentreOf of the program returns what the reference returns, and leaves its arguments as they were. No condition.
-/
import Derived.Test.YtjonaolapbnepaaRows
import Derived.Test.YtjonaolapbnepaaVecTops
import Derived.Test.YtjonaolapbnepaaExactWalks
import Derived.Test.YtjonaolapbnepaaArgs
import Derived.ProofKit
import Derived.OpenShut
import Derived.ShutString
import Derived.ChangeOld
namespace Go.Proofs.Ytjonaolapbnepaa.fnExactCentreOf
open Go.ChangeShapes Go.WideShapes Go.ChangeAt Go.RowKit
set_option linter.unusedVariables false

set_option maxHeartbeats 1000000 in
theorem walk (a0 : Option Addr) (cap0 : Nat) (z0 : List (List Int)) (a1 : Option Addr) (cap1 : Nat) (z1 : List Int) (w : World) (w0 : Lists w 0 w.heap.size a0 z0 ∧ Cap z0.length cap0) (w1 : Ints w 0 w.heap.size a1 z1 ∧ Cap z1.length cap1) :
    Calls Try.prog 11 #[.slice a0 z0.length cap0, .slice a1 z1.length cap1] w fun e w' => e = .returned (.bool true) ∧ Below w.heap.size w w' := by
  obtain ⟨hl, -⟩ := w0
  obtain ⟨hi, -⟩ := w1
  have HB : Hid (Below w.heap.size w w) := Lib.hid (Below.refl _ _)
  have hlen1 := hi.len
  by_cases hbig : 1048576 < z1.length
  · have hbig' : (1048576 : Int) < z1.length := by omega
    go_enter Try.func11, Try.ntmps11
    go_wp2_with fail
    go_ret
    exact ⟨rfl, HB.out⟩
  · have hz1 : z1.length ≤ 1048576 := by omega
    go_enter Try.func11, Try.ntmps11
    go_wp2_with fail
    refine (szIntSS_any _ _ _ _ _ _ _ hl (by omega) (by omega)).mono ?_
    rintro e w' ⟨r, rfl, hr, rfl⟩
    rcases hr with rfl | ⟨r0, r1, hlen⟩
    · go_wp2_with fail
      go_ret
      exact ⟨rfl, HB.out⟩
    · have HL := Lib.hid hlen
      clear hlen
      go_wp2_with fail
      refine (toIntSS_any _ _ _ _ _ _ hl HL.out).mono ?_
      rintro e w2 ⟨bs2, rfl, hss2, hmk⟩
      replace hl := hl.below hmk
      replace hi := hi.below hmk
      replace HB := Lib.hid (HB.out.trans (hmk.mono HB.out.size))
      clear hmk
      have h2 := hss2.lists
      clear hss2
      go_wp2_with fail
      refine (toIntS_any _ _ _ _ _ _ hi hz1).mono ?_
      rintro e w3 ⟨rfl, hk3, hmk⟩
      replace hl := hl.below hmk
      replace hi := hi.below hmk
      replace h2 := h2.below hmk
      replace HB := Lib.hid (HB.out.trans (hmk.mono HB.out.size))
      clear hmk
      have i3 := hk3.read hi
      clear hk3
      go_wp2_with fail
      refine (specCentreOf _ _ _ _ _ _ _ _ _ _ _ h2 i3).mono ?_
      rintro e w4 ⟨rfl, hdrw⟩
      replace hl := hl.drawn hdrw
      replace hi := hi.drawn hdrw
      replace HB := Lib.hid (HB.out.trans hdrw.below)
      have HS_w4 := Lib.hid (congrArg Array.size hdrw.heap)
      clear hdrw
      clear h2 i3
      go_wp2_with fail
      refine (toIntSS_any _ _ _ _ _ _ hl HL.out).mono ?_
      rintro e w5 ⟨bs5, rfl, hss5, hmk⟩
      replace hl := hl.below hmk
      replace hi := hi.below hmk
      replace HB := Lib.hid (HB.out.trans (hmk.mono HB.out.size))
      clear hmk
      have h5 := hss5.lists
      clear hss5
      go_wp2_with fail
      refine (toIntS_any _ _ _ _ _ _ hi hz1).mono ?_
      rintro e w6 ⟨rfl, hk6, hmk⟩
      replace hl := hl.below hmk
      replace hi := hi.below hmk
      replace h5 := h5.below hmk
      replace HB := Lib.hid (HB.out.trans (hmk.mono HB.out.size))
      clear hmk
      have i6 := hk6.read hi
      clear hk6
      go_wp2_with fail
      refine (implCentreOf _ _ _ _ _ _ _ _ _ _ _ h5 i6).mono ?_
      rintro e w7 ⟨rfl, hdrw⟩
      replace hl := hl.drawn hdrw
      replace hi := hi.drawn hdrw
      replace h5 := h5.drawn hdrw
      replace i6 := i6.drawn hdrw
      replace HB := Lib.hid (HB.out.trans hdrw.below)
      have HS_w7 := Lib.hid (congrArg Array.size hdrw.heap)
      clear hdrw
      go_wp2_with fail
      refine (toIntSS_any _ _ _ _ _ _ hl HL.out).mono ?_
      rintro e w8 ⟨bs8, rfl, hss8, hmk⟩
      replace hl := hl.below hmk
      replace hi := hi.below hmk
      replace h5 := h5.below hmk
      replace i6 := i6.below hmk
      replace HB := Lib.hid (HB.out.trans (hmk.mono HB.out.size))
      clear hmk
      have h8 := hss8.lists
      clear hss8
      go_wp2_with fail
      refine (eqIntSS_any _ _ _ _ _ _ _ _ _ _ _ h5 h8).mono ?_
      rintro e w9 ⟨rfl, hdrw⟩
      replace hl := hl.drawn hdrw
      replace hi := hi.drawn hdrw
      replace i6 := i6.drawn hdrw
      replace HB := Lib.hid (HB.out.trans hdrw.below)
      have HS_w9 := Lib.hid (congrArg Array.size hdrw.heap)
      clear hdrw
      rw [eqLL_self]
      clear h8 h5
      go_wp2_with fail
      refine (toIntS_any _ _ _ _ _ _ hi hz1).mono ?_
      rintro e w10 ⟨rfl, hk10, hmk⟩
      replace hl := hl.below hmk
      replace hi := hi.below hmk
      replace i6 := i6.below hmk
      replace HB := Lib.hid (HB.out.trans (hmk.mono HB.out.size))
      clear hmk
      have i10 := hk10.read hi
      clear hk10
      go_wp2_with fail
      refine (eqIntS_any _ _ _ _ _ _ _ _ _ _ _ i6 i10).mono ?_
      rintro e w11 ⟨rfl, hdrw⟩
      replace HB := Lib.hid (HB.out.trans hdrw.below)
      have HS_w11 := Lib.hid (congrArg Array.size hdrw.heap)
      clear hdrw
      rw [eqL_self]
      go_wp2_with fail
      go_ret
      exact ⟨rfl, HB.out⟩
theorem own : ownKnob Try.prog.godebug = none := by kernel_rfl
theorem laidOut : laidOutB Try.prog = true := by kernel_rfl

set_option maxRecDepth 100000 in
theorem lifted (os : Os) (started : os.Started) (H : Type) (enc : TypeId × Value → H) :
    ReturnsInHanded {} Try.checked os 11 .any (Rows.fnExactCentreOfSpec.pre6 enc Try.prog Try.f11 Rows.fnExactCentreOfRow.domain false) (Rows.fnExactCentreOfSpec.post enc Try.prog Try.f11 false true false false) := by
  refine returnsInHanded_of_change (C := Try.checked) own started (by kernel_rfl) Try.func11
    (ChangeSpec.witness6 (enc := enc) (C := Try.checked) false ⟨#[], #[.slice none 0 0, .slice none 0 0], []⟩ 8 (by kernel_rfl) (by kernel_rfl) (by kernel_rfl) (by kernel_rfl)) ?_
  intro W base args ds gs before hval0 hW hcnd _
  have hval : ∀ (j : Nat) t v, Try.f11.params[j]? = some t → args[j]? = some v → Value.okWide Try.prog W .any base t v := hval0
  have hW' := hW
  obtain ⟨p, q, hA0, hV, rfl, hfz, hnd⟩ := hW
  have hA : DataW.TrodAll enc Try.prog W 0 (fun _ => true) true Try.f11.params.toList args.toList ds p := hA0
  rw [Try.params11] at hA hval
  obtain ⟨v0, vs0, d0, ds0, p0, q0, hargs, rfl, rfl, h0, r0⟩ := trodAll_cons hA
  obtain ⟨v1, vs1, d1, ds1, p1, q1, rfl, rfl, rfl, h1, r1⟩ := trodAll_cons r0
  obtain ⟨rfl, rfl, rfl⟩ := trodAll_nil r1
  obtain rfl : args = #[v0, v1] := by cases args; simp_all
  obtain ⟨rfl, rfl⟩ := trodVars_none hV
  obtain ⟨a0, len0, cap0, rfl⟩ := okWide_slice Try.underlying22 (hval 0 22 v0 rfl rfl)
  have k0 := h0
  have lt0 : ∀ x ∈ p0, x.block < W.heap.size := by obtain ⟨m, hm⟩ := k0; exact DataW.trod_lt m _ _ _ hm
  obtain ⟨fuel0, hf0⟩ := h0
  obtain ⟨z0, hz0, w0⟩ := lists_of_trod hf0
  subst hz0
  obtain ⟨a1, len1, cap1, rfl⟩ := okWide_slice Try.underlying30 (hval 1 30 v1 rfl rfl)
  have k1 := h1
  have lt1 : ∀ x ∈ p1, x.block < W.heap.size := by obtain ⟨m, hm⟩ := k1; exact DataW.trod_lt m _ _ _ hm
  obtain ⟨fuel1, hf1⟩ := h1
  obtain ⟨z1, hz1, w1⟩ := ints_of_trod hf1
  subst hz1
  clear hA0 hval0
  refine (walk a0 cap0 z0 a1 cap1 z1 W w0 w1).mono fun e W' ⟨he, bel⟩ => ?_
  subst he
  exact ⟨_, rfl, _, _, _, [], _, [], hW', trodAll_mk1 (shut_bool Try.underlying4 _), (trodAll_cons_mk (Below.trod laidOut (by kernel_rfl) (of_decide_eq_true (by kernel_rfl)) k0 bel lt0) (trodAll_cons_mk (Below.trod laidOut (by kernel_rfl) (of_decide_eq_true (by kernel_rfl)) k1 bel lt1) trodAll_mk0)), rfl, bel.frame _, fun h => by cases h⟩

theorem over : Rows.fnExactCentreOfRow.holds Try.pinned (OpenSpec.ofChange Rows.fnExactCentreOfSpec) :=
  OpenClaim.holds_of_wide 11 Try.f11 rfl rfl rfl rfl rfl rfl rfl ⟨rfl, rfl, rfl, rfl, rfl⟩ rfl rfl rfl rfl rfl (by kernel_rfl) Try.func11 (by kernel_rfl)
    (of_decide_eq_true (by kernel_rfl)) (by unfold Func.isWrapper; first | (rw [if_pos (by decide +kernel)]; kernel_rfl) | (rw [if_neg (by decide +kernel)]; exact ⟨rfl, rfl⟩))
    (fun os started H enc _ => lifted os started H enc)

/-- THE STATEMENT -/
theorem proved : Rows.FnExactCentreOfSaid :=
  over
#print axioms proved
end Go.Proofs.Ytjonaolapbnepaa.fnExactCentreOf
