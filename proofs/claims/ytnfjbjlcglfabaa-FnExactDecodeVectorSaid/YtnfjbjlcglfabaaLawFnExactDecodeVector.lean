/-
  For all arguments DecodeVector of the program returns what the reference returns, and leaves its arguments as they were; the result shares no memory with them. No condition.
-/
import Derived.Test.YtnfjbjlcglfabaaRows
import Derived.Test.YtnfjbjlcglfabaaBookNew
import Derived.Test.YtnfjbjlcglfabaaBookExact
import Derived.Deep.RegionHeld3
import Derived.Test.YtnfjbjlcglfabaaArgs
import Derived.Test.YtnfjbjlcglfabaaArgsBook
import Derived.ProofKit
import Derived.OpenShut
import Derived.ShutString
import Derived.ChangeOld
namespace Go.Proofs.Ytnfjbjlcglfabaa.fnExactDecodeVector
open Go.ChangeShapes Go.WideShapes Go.ChangeAt Go.RowKit
set_option linter.unusedVariables false

set_option maxHeartbeats 4000000 in
theorem walk (a0 b0 : Option Addr) (cap0 cap0' : Nat) (L0 R0 : List (List Int)) (a1 : Int) (w : World) (w0 : Sides w 0 w.heap.size a0 b0 L0 R0 ∧ Cap L0.length cap0 ∧ Cap R0.length cap0') (w1 : (Lit.int .i64 a1).wf = true) :
    Calls Try.prog 7 #[.agg #[.slice a0 L0.length cap0, .slice b0 R0.length cap0'], .int .i64 a1] w fun e w' => e = .returned (.bool true) ∧ Below w.heap.size w w' := by
  have HB : Hid (Below w.heap.size w w) := Lib.hid (Below.refl _ _)
  obtain ⟨A0, -⟩ := w0
  have hWW : w.heap.size ≤ w.heap.size := Nat.le_refl _
  have hmk := (Below.refl w.heap.size w).alloc (Nat.le_refl _) (.cells #[.slice a0 L0.length cap0, .slice b0 R0.length cap0'] 29)
  have X0 := heap_alloc_new w (.cells #[.slice a0 L0.length cap0, .slice b0 R0.length cap0'] 29)
  have ka0 := cells2_0 X0
  have ka1 := cells2_1 X0
  have hsa := hmk.size
  have hsa2 : w.heap.size < (w.alloc (.cells #[.slice a0 L0.length cap0, .slice b0 R0.length cap0'] 29)).heap.size := by simp
  clear X0
  replace A0 := A0.below hmk
  replace HB := Lib.hid (HB.out.trans (hmk.mono HB.out.size))
  clear hmk
  go_enter Try.func7, Try.ntmps7
  have r0 : (0 : Int) ≤ 1048576 := by omega
  have rr : (1048576 : Int) ≤ 1048576 := by omega
  go_wp2_with fail
  refine (szBook_any _ _ _ _ _ _ _ L0 R0 _ A0 r0 rr).mono ?_
  rintro e w12 ⟨lf0, rfl, hlf0, hmk⟩
  have hsw12 := hmk.size
  replace A0 := A0.below hmk
  replace ka0 := cell_later hmk ka0
  replace ka1 := cell_later hmk ka1
  replace HB := Lib.hid (HB.out.trans (hmk.mono HB.out.size))
  clear hmk
  rcases hlf0 with rfl | ⟨p0, q0, hLL0, hLR0⟩
  · go_wp2_with fail
    go_ret
    exact ⟨rfl, HB.out⟩
  have qq0 : lf0 ≤ 1048576 := by omega
  have HL0 := Lib.hid (And.intro (hLL0.mono rr) (hLR0.mono rr))
  clear hLL0 hLR0
  obtain ⟨rv, hrv⟩ : ∃ rv, decV L0 R0 a1 = rv := ⟨_, rfl⟩
  have HRV := Lib.hid hrv
  clear hrv
  have HOK : Hid ((∀ x ∈ rv, -9223372036854775808 ≤ x ∧ x ≤ 9223372036854775807) ∧ rv.length ≤ 9223372036854775807 ∧ rv.length ≤ 1048576) := Lib.hid (by rw [← HRV.out]; exact decV_ok L0 R0 a1)
  go_wp2_with fail
  refine (toBook_any _ _ _ _ _ _ _ L0 R0 A0 HL0.out.1 HL0.out.2).mono ?_
  rintro e w13 ⟨BLT0, BRT0, blT0, brT0, rfl, hkT0, hmk⟩
  have hsw13 := hmk.size
  replace A0 := A0.below hmk
  replace ka0 := cell_later hmk ka0
  replace ka1 := cell_later hmk ka1
  replace HB := Lib.hid (HB.out.trans (hmk.mono HB.out.size))
  have T0 := Lib.hid hkT0
  clear hkT0
  clear hmk
  go_wp2_with fail
  have C := specDecodeVector_new _ _ _ _ _ L0.length R0.length L0 R0 a1 T0.out.sides
  rw [HRV.out] at C
  refine (C).mono ?_
  rintro e w14 ⟨gW0, cpW0, rfl, hoW0, hmk⟩
  have hsw14 := hmk.size
  replace A0 := A0.below hmk
  replace ka0 := cell_later hmk ka0
  replace ka1 := cell_later hmk ka1
  replace T0 := Lib.hid (T0.out.below hmk)
  replace HB := Lib.hid (HB.out.trans (hmk.mono HB.out.size))
  have W0 : Hid (IntsO w14 w13.heap.size w14.heap.size gW0 rv) := Lib.hid (owns_mark hoW0 HOK.out.1 HOK.out.2.1).2
  clear hoW0
  clear hmk
  clear C
  clear T0
  go_wp2_with fail
  refine (toBook_any _ _ _ _ _ _ _ L0 R0 A0 HL0.out.1 HL0.out.2).mono ?_
  rintro e w15 ⟨BLX0, BRX0, blX0, brX0, rfl, hkX0, hmk⟩
  have hsw15 := hmk.size
  replace A0 := A0.below hmk
  replace ka0 := cell_later hmk ka0
  replace ka1 := cell_later hmk ka1
  replace W0 := Lib.hid (W0.out.below hmk)
  replace HB := Lib.hid (HB.out.trans (hmk.mono HB.out.size))
  have X0 := Lib.hid hkX0
  clear hkX0
  clear hmk
  go_wp2_with fail
  have hmk := (Below.refl w15.heap.size w15).alloc (Nat.le_refl _) (.cells #[.slice (some ⟨BLX0, 0, none⟩) L0.length L0.length, .slice (some ⟨BRX0, 0, none⟩) R0.length R0.length] 25)
  have XV := heap_alloc_new w15 (.cells #[.slice (some ⟨BLX0, 0, none⟩) L0.length L0.length, .slice (some ⟨BRX0, 0, none⟩) R0.length R0.length] 25)
  have kx0 := cells2_0 XV
  have kx1 := cells2_1 XV
  have hxv : w15.heap.size < (w15.alloc (.cells #[.slice (some ⟨BLX0, 0, none⟩) L0.length L0.length, .slice (some ⟨BRX0, 0, none⟩) R0.length R0.length] 25)).heap.size := by simp
  clear XV
  replace A0 := A0.below hmk
  replace ka0 := cell_later hmk ka0
  replace ka1 := cell_later hmk ka1
  replace W0 := Lib.hid (W0.out.below hmk)
  replace X0 := Lib.hid (X0.out.below hmk)
  replace HB := Lib.hid (HB.out.trans (hmk.mono HB.out.size))
  clear hmk
  obtain ⟨w16, hww⟩ : ∃ w16, w15.alloc (.cells #[.slice (some ⟨BLX0, 0, none⟩) L0.length L0.length, .slice (some ⟨BRX0, 0, none⟩) R0.length R0.length] 25) = w16 := ⟨_, rfl⟩
  obtain ⟨vx, hvx⟩ : ∃ vx, w15.heap.size = vx := ⟨_, rfl⟩
  rw [hvx] at kx0 kx1
  rw [hww] at A0 ka0 ka1 W0 X0 HB kx0 kx1 hxv ⊢
  have hvx1 : vx = w15.heap.size := hvx.symm
  rw [hvx]
  have hvx2 : vx ≤ w15.heap.size := by omega
  have hvx3 : w15.heap.size ≤ vx := by omega
  clear hww hvx hvx1
  go_wp2_with fail
  have C := implDecodeVector_new _ _ _ _ _ L0.length R0.length L0 R0 a1 X0.out.sides
  rw [HRV.out] at C
  refine (C).mono ?_
  rintro e w17 ⟨gG0, cpG0, rfl, hoG0, hmk⟩
  have hsw17 := hmk.size
  replace A0 := A0.below hmk
  replace ka0 := cell_later hmk ka0
  replace ka1 := cell_later hmk ka1
  replace W0 := Lib.hid (W0.out.below hmk)
  replace X0 := Lib.hid (X0.out.below hmk)
  replace kx0 := cell_later hmk kx0
  replace kx1 := cell_later hmk kx1
  replace HB := Lib.hid (HB.out.trans (hmk.mono HB.out.size))
  have G0 : Hid (IntsO w17 w16.heap.size w17.heap.size gG0 rv) := Lib.hid (owns_mark hoG0 HOK.out.1 HOK.out.2.1).2
  clear hoG0
  clear hmk
  clear C
  go_wp2_with fail
  refine (eqIntS_any _ _ _ _ _ _ _ cpG0 cpW0 rv rv G0.out.1 W0.out.1).mono ?_
  rintro e w18 ⟨rfl, hmk⟩
  have hsw18 := size_drawn hmk
  replace A0 := A0.drawn hmk
  replace ka0 := hmk.cell ka0
  replace ka1 := hmk.cell ka1
  replace W0 := Lib.hid (W0.out.drawn hmk)
  replace X0 := Lib.hid (X0.out.drawn hmk)
  replace kx0 := hmk.cell kx0
  replace kx1 := hmk.cell kx1
  replace G0 := Lib.hid (G0.out.drawn hmk)
  replace HB := Lib.hid (HB.out.trans hmk.below)
  rw [eqL_self]
  clear hmk
  go_wp2_with fail
  have hdd := (Below.refl w18.heap.size w18).drew
  have HTB := Lib.hid (toBook_any w18.drew _ _ _ _ cap0 cap0' L0 R0 (A0.below hdd) HL0.out.1 HL0.out.2)
  have KD := Lib.hid (show ∀ w', Below w18.heap.size w18 w' → w'.cell? ⟨w.heap.size, 0, none⟩ = some (.slice a0 L0.length cap0) ∧ w'.cell? ⟨w.heap.size, 1, none⟩ = some (.slice b0 R0.length cap0') ∧ w'.cell? ⟨vx, 0, none⟩ = some (.slice (some ⟨BLX0, 0, none⟩) L0.length L0.length) ∧ w'.cell? ⟨vx, 1, none⟩ = some (.slice (some ⟨BRX0, 0, none⟩) R0.length R0.length) from fun w' bl => ⟨cell_later bl ka0, cell_later bl ka1, cell_later bl kx0, cell_later bl kx1⟩)
  have HDD := Lib.hid hdd
  clear hdd
  go_region_held3 (fun w' => w'.cell? ⟨w.heap.size, 0, none⟩ = some (.slice a0 L0.length cap0) ∧ w'.cell? ⟨w.heap.size, 1, none⟩ = some (.slice b0 R0.length cap0') ∧ w'.cell? ⟨vx, 0, none⟩ = some (.slice (some ⟨BLX0, 0, none⟩) L0.length L0.length) ∧ w'.cell? ⟨vx, 1, none⟩ = some (.slice (some ⟨BRX0, 0, none⟩) R0.length R0.length))
    (first | go_keep | exact KD.out _ HDD.out | exact KD.out _ HW2.out | exact KD.out _ HW3.out)
    (first
      | (go_at_call 19; refine HTB.out.mono ?_; rintro e w20 ⟨BLY, BRY, blY, brY, rfl, hkY, hmk⟩; have HW2 := Lib.hid (HDD.out.trans hmk); have HY := Lib.hid hkY; clear hkY hmk)
      | (go_at_call 20; have hX := X0.out.below HW2.out; refine (eqBook_same w20 _ _ _ _ _ _ _ _ L0.length R0.length L0.length R0.length L0 R0 hX.sides HY.out.sides).mono ?_; rintro e w21 ⟨rfl, hmk⟩; have HW3 : Hid (Below w18.heap.size w18 w21) := Lib.hid (HW2.out.trans (hmk.mono HW2.out.size)); clear hmk hX))
  have hmk := HW3.out
  have hsw21 := hmk.size
  replace A0 := A0.below hmk
  replace ka0 := cell_later hmk ka0
  replace ka1 := cell_later hmk ka1
  replace W0 := Lib.hid (W0.out.below hmk)
  replace X0 := Lib.hid (X0.out.below hmk)
  replace kx0 := cell_later hmk kx0
  replace kx1 := cell_later hmk kx1
  replace G0 := Lib.hid (G0.out.below hmk)
  replace HB := Lib.hid (HB.out.trans (hmk.mono HB.out.size))
  clear hmk HTB KD HDD HW2 HW3 HY
  have kk0 : (0 : Int) ≤ 1 := by omega
  have kk1 : (1 : Int) ≤ 1 := by omega
  go_wp2_with fail
  refine (markBook_any _ _ _ _ _ _ _ L0 R0 _ X0.out (by omega) (by omega) (by omega)).mono ?_
  rintro e w22 ⟨km0, rfl, hm0a, hm0b, hmk⟩
  have hsw22 := hmk.size
  clear X0
  replace A0 := A0.upd hmk (by omega)
  replace ka0 := hmk.cell ka0 (by dsimp only; omega)
  replace ka1 := hmk.cell ka1 (by dsimp only; omega)
  replace W0 := Lib.hid (W0.out.upd hmk (by omega))
  replace kx0 := hmk.cell kx0 (by dsimp only; omega)
  replace kx1 := hmk.cell kx1 (by dsimp only; omega)
  replace G0 := Lib.hid (G0.out.upd hmk (by omega))
  replace HB := Lib.hid (HB.out.trans (hmk.low (by omega) (by omega)))
  clear hmk
  go_wp2_with fail
  refine (eqIntS_any _ _ _ _ _ _ _ cpG0 cpW0 rv rv G0.out.1 W0.out.1).mono ?_
  rintro e w23 ⟨rfl, hmk⟩
  have hsw23 := size_drawn hmk
  replace A0 := A0.drawn hmk
  replace ka0 := hmk.cell ka0
  replace ka1 := hmk.cell ka1
  replace W0 := Lib.hid (W0.out.drawn hmk)
  replace kx0 := hmk.cell kx0
  replace kx1 := hmk.cell kx1
  replace G0 := Lib.hid (G0.out.drawn hmk)
  replace HB := Lib.hid (HB.out.trans hmk.below)
  rw [eqL_self]
  clear hmk
  go_wp2_with fail
  refine (markIntS_any _ _ _ _ _ rv 1 G0.out.1 G0.out.2 (by have := HOK.out.2.2; omega) (by omega) (by omega)).mono ?_
  rintro e w24 ⟨rfl, hg1, hg2, hmk, -⟩
  have hsw24 := hmk.size
  have GM := Lib.hid (And.intro hg1 hg2)
  clear hg1 hg2 G0
  replace A0 := A0.upd hmk (by omega)
  replace ka0 := hmk.cell ka0 (by dsimp only; omega)
  replace ka1 := hmk.cell ka1 (by dsimp only; omega)
  replace W0 := Lib.hid (W0.out.upd hmk (by omega))
  replace kx0 := hmk.cell kx0 (by dsimp only; omega)
  replace kx1 := hmk.cell kx1 (by dsimp only; omega)
  replace HB := Lib.hid (HB.out.trans (hmk.low (by omega) (by omega)))
  clear hmk
  have GMI : Hid (IntsO w24 _ _ gG0 (upL 1 rv.length)) := GM
  clear GM
  have hrl : rv.length ≤ 1048576 := HOK.out.2.2
  go_wp2_with fail
  refine (heldIntS_any _ _ _ _ _ rv.length 1 GMI.out.1 (by omega) (by omega) (by omega)).mono ?_
  rintro e w25 ⟨rfl, rfl⟩
  go_wp2_with fail
  refine (toBook_any _ _ _ _ _ _ _ L0 R0 A0 HL0.out.1 HL0.out.2).mono ?_
  rintro e w26 ⟨BLS0, BRS0, blS0, brS0, rfl, hkS0, hmk⟩
  have hsw26 := hmk.size
  replace A0 := A0.below hmk
  replace ka0 := cell_later hmk ka0
  replace ka1 := cell_later hmk ka1
  replace W0 := Lib.hid (W0.out.below hmk)
  replace kx0 := cell_later hmk kx0
  replace kx1 := cell_later hmk kx1
  replace GMI := Lib.hid (GMI.out.below hmk)
  replace HB := Lib.hid (HB.out.trans (hmk.mono HB.out.size))
  have S0 := Lib.hid hkS0
  clear hkS0
  clear hmk
  go_wp2_with fail
  have C := implDecodeVector_new _ _ _ _ _ L0.length R0.length L0 R0 a1 S0.out.sides
  rw [HRV.out] at C
  refine (C).mono ?_
  rintro e w27 ⟨gH0, cpH0, rfl, hoH0, hmk⟩
  have hsw27 := hmk.size
  replace A0 := A0.below hmk
  replace ka0 := cell_later hmk ka0
  replace ka1 := cell_later hmk ka1
  replace W0 := Lib.hid (W0.out.below hmk)
  replace kx0 := cell_later hmk kx0
  replace kx1 := cell_later hmk kx1
  replace GMI := Lib.hid (GMI.out.below hmk)
  replace S0 := Lib.hid (S0.out.below hmk)
  replace HB := Lib.hid (HB.out.trans (hmk.mono HB.out.size))
  have H0 : Hid (IntsO w27 w26.heap.size w27.heap.size gH0 rv) := Lib.hid (owns_mark hoH0 HOK.out.1 HOK.out.2.1).2
  clear hoH0
  clear hmk
  clear C
  clear S0
  go_wp2_with fail
  refine (eqIntS_any _ _ _ _ _ _ _ cpH0 cpW0 rv rv H0.out.1 W0.out.1).mono ?_
  rintro e w28 ⟨rfl, hmk⟩
  have hsw28 := size_drawn hmk
  replace A0 := A0.drawn hmk
  replace ka0 := hmk.cell ka0
  replace ka1 := hmk.cell ka1
  replace W0 := Lib.hid (W0.out.drawn hmk)
  replace kx0 := hmk.cell kx0
  replace kx1 := hmk.cell kx1
  replace GMI := Lib.hid (GMI.out.drawn hmk)
  replace H0 := Lib.hid (H0.out.drawn hmk)
  replace HB := Lib.hid (HB.out.trans hmk.below)
  rw [eqL_self]
  clear hmk
  go_wp2_with fail
  refine (heldIntS_any _ _ _ _ _ rv.length 1 GMI.out.1 (by omega) (by omega) (by omega)).mono ?_
  rintro e w29 ⟨rfl, rfl⟩
  go_wp2_with fail
  go_ret
  exact ⟨rfl, HB.out⟩
theorem own : ownKnob Try.prog.godebug = none := by kernel_rfl
theorem laidOut : laidOutB Try.prog = true := by kernel_rfl

set_option maxRecDepth 100000 in
theorem lifted (os : Os) (started : os.Started) (H : Type) (enc : TypeId × Value → H) :
    ReturnsInHanded {} Try.checked os 7 .any (Rows.fnExactDecodeVectorSpec.pre6 enc Try.prog Try.f7 Rows.fnExactDecodeVectorRow.domain false) (Rows.fnExactDecodeVectorSpec.post enc Try.prog Try.f7 false true false false) := by
  refine returnsInHanded_of_change (C := Try.checked) own started (by kernel_rfl) Try.func7
    (ChangeSpec.witness6 (enc := enc) (C := Try.checked) false ⟨#[], #[.agg #[.slice none 0 0, .slice none 0 0], .int .i64 0], []⟩ 8 (by kernel_rfl) (by kernel_rfl) (by kernel_rfl) (by kernel_rfl)) ?_
  intro W base args ds gs before hval0 hW hcnd _
  have hval : ∀ (j : Nat) t v, Try.f7.params[j]? = some t → args[j]? = some v → Value.okWide Try.prog W .any base t v := hval0
  have hW' := hW
  obtain ⟨p, q, hA0, hV, rfl, hfz, hnd⟩ := hW
  have hA : DataW.TrodAll enc Try.prog W 0 (fun _ => true) true Try.f7.params.toList args.toList ds p := hA0
  rw [Try.params7] at hA hval
  obtain ⟨v0, vs0, d0, ds0, p0, q0, hargs, rfl, rfl, h0, r0⟩ := trodAll_cons hA
  obtain ⟨v1, vs1, d1, ds1, p1, q1, rfl, rfl, rfl, h1, r1⟩ := trodAll_cons r0
  obtain ⟨rfl, rfl, rfl⟩ := trodAll_nil r1
  obtain rfl : args = #[v0, v1] := by cases args; simp_all
  obtain ⟨rfl, rfl⟩ := trodVars_none hV
  have k0 := h0
  have lt0 : ∀ x ∈ p0, x.block < W.heap.size := by obtain ⟨m, hm⟩ := k0; exact DataW.trod_lt m _ _ _ hm
  obtain ⟨a0, b0, cap0, cap0', L0, R0, hv0, w0⟩ := book_of_trod (hval 0 29 v0 rfl rfl) h0
  subst hv0
  obtain ⟨a1, rfl, rfl, rfl, w1⟩ := open_int Try.underlying3 (hval 1 3 v1 rfl rfl) h1
  clear hA0 hval0
  refine (walk a0 b0 cap0 cap0' L0 R0 a1 W w0 w1).mono fun e W' ⟨he, bel⟩ => ?_
  subst he
  exact ⟨_, rfl, _, _, _, [], _, [], hW', trodAll_mk1 (shut_bool Try.underlying4 _), (trodAll_cons_mk (Below.trod laidOut (by kernel_rfl) (of_decide_eq_true (by kernel_rfl)) k0 bel lt0) (trodAll_cons_mk (shut_int Try.underlying3 w1) trodAll_mk0)), rfl, bel.frame _, fun h => by cases h⟩

theorem over : Rows.fnExactDecodeVectorRow.holds Try.pinned (OpenSpec.ofChange Rows.fnExactDecodeVectorSpec) :=
  OpenClaim.holds_of_wide 7 Try.f7 rfl rfl rfl rfl rfl rfl rfl ⟨rfl, rfl, rfl, rfl, rfl⟩ rfl rfl rfl rfl rfl (by kernel_rfl) Try.func7 (by kernel_rfl)
    (of_decide_eq_true (by kernel_rfl)) (by unfold Func.isWrapper; first | (rw [if_pos (by decide +kernel)]; kernel_rfl) | (rw [if_neg (by decide +kernel)]; exact ⟨rfl, rfl⟩))
    (fun os started H enc _ => lifted os started H enc)

/-- THE STATEMENT -/
theorem proved : Rows.FnExactDecodeVectorSaid :=
  over
#print axioms proved
end Go.Proofs.Ytnfjbjlcglfabaa.fnExactDecodeVector
