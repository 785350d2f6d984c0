/-
  For all arguments EncodeVector of the program returns what the reference returns, and leaves its arguments as they were. No condition.
-/
import Derived.Test.YtnfjbjlcglfabaaRows
import Derived.Test.YtnfjbjlcglfabaaBookTops
import Derived.Test.YtnfjbjlcglfabaaBookExact
import Derived.Deep.RegionHeld3
import Derived.Test.YtnfjbjlcglfabaaArgs
import Derived.Test.YtnfjbjlcglfabaaArgsBook
import Derived.ProofKit
import Derived.OpenShut
import Derived.ShutString
import Derived.ChangeOld
namespace Go.Proofs.Ytnfjbjlcglfabaa.fnExactEncodeVector
open Go.ChangeShapes Go.WideShapes Go.ChangeAt Go.RowKit
set_option linter.unusedVariables false

set_option maxHeartbeats 4000000 in
theorem walk (a0 b0 : Option Addr) (cap0 cap0' : Nat) (L0 R0 : List (List Int)) (a1 : Option Addr) (cap1 : Nat) (z1 : List Int) (w : World) (w0 : Sides w 0 w.heap.size a0 b0 L0 R0 ∧ Cap L0.length cap0 ∧ Cap R0.length cap0') (w1 : Ints w 0 w.heap.size a1 z1 ∧ Cap z1.length cap1) :
    Calls Try.prog 11 #[.agg #[.slice a0 L0.length cap0, .slice b0 R0.length cap0'], .slice a1 z1.length cap1] w fun e w' => e = .returned (.bool true) ∧ Below w.heap.size w w' := by
  have HB : Hid (Below w.heap.size w w) := Lib.hid (Below.refl _ _)
  obtain ⟨A0, -⟩ := w0
  obtain ⟨A1, -⟩ := w1
  have hlen1 := A1.len
  have hWW : w.heap.size ≤ w.heap.size := Nat.le_refl _
  have hmk := (Below.refl w.heap.size w).alloc (Nat.le_refl _) (.cells #[.slice a0 L0.length cap0, .slice b0 R0.length cap0'] 29)
  have X0 := heap_alloc_new w (.cells #[.slice a0 L0.length cap0, .slice b0 R0.length cap0'] 29)
  have ka0 := cells2_0 X0
  have ka1 := cells2_1 X0
  have hsa := hmk.size
  have hsa2 : w.heap.size < (w.alloc (.cells #[.slice a0 L0.length cap0, .slice b0 R0.length cap0'] 29)).heap.size := by simp
  clear X0
  replace A0 := A0.below hmk
  replace A1 := A1.below hmk
  replace HB := Lib.hid (HB.out.trans (hmk.mono HB.out.size))
  clear hmk
  by_cases hbig1 : 1048576 < z1.length
  · have hbi1 : (1048576 : Int) < z1.length := by omega
    go_enter Try.func11, Try.ntmps11
    go_wp2_with fail
    go_ret
    exact ⟨rfl, HB.out⟩
  have hz1 : z1.length ≤ 1048576 := by omega
  have hbj1 : decide ((1048576 : Int) < (z1.length : Int)) = false := decide_eq_false (by omega)
  go_enter Try.func11, Try.ntmps11
  have r0 : (0 : Int) ≤ 1048576 := by omega
  have rr : (1048576 : Int) ≤ 1048576 := by omega
  go_wp2_with fail
  refine (szBook_any _ _ _ _ _ _ _ L0 R0 _ A0 r0 rr).mono ?_
  rintro e w12 ⟨lf0, rfl, hlf0, hmk⟩
  have hsw12 := hmk.size
  replace A0 := A0.below hmk
  replace A1 := A1.below hmk
  replace ka0 := cell_later hmk ka0
  replace ka1 := cell_later hmk ka1
  replace HB := Lib.hid (HB.out.trans (hmk.mono HB.out.size))
  clear hmk
  rcases hlf0 with rfl | ⟨p0, q0, hLL0, hLR0⟩
  · go_wp2_with fail
    go_ret
    exact ⟨rfl, HB.out⟩
  have qq0 : lf0 ≤ 1048576 := by omega
  have HL0 := Lib.hid (And.intro (hLL0.mono rr) (hLR0.mono rr))
  clear hLL0 hLR0
  obtain ⟨rv, hrv⟩ : ∃ rv, encV L0 R0 z1 = rv := ⟨_, rfl⟩
  have HRV := Lib.hid hrv
  clear hrv
  go_wp2_with fail
  refine (toBook_any _ _ _ _ _ _ _ L0 R0 A0 HL0.out.1 HL0.out.2).mono ?_
  rintro e w13 ⟨BLT0, BRT0, blT0, brT0, rfl, hkT0, hmk⟩
  have hsw13 := hmk.size
  replace A0 := A0.below hmk
  replace A1 := A1.below hmk
  replace ka0 := cell_later hmk ka0
  replace ka1 := cell_later hmk ka1
  replace HB := Lib.hid (HB.out.trans (hmk.mono HB.out.size))
  have T0 := Lib.hid hkT0
  clear hkT0
  clear hmk
  go_wp2_with fail
  refine (toIntS_any _ _ _ _ _ z1 A1 hz1).mono ?_
  rintro e w14 ⟨rfl, hkT1, hmk⟩
  have hsw14 := hmk.size
  replace A0 := A0.below hmk
  replace A1 := A1.below hmk
  replace ka0 := cell_later hmk ka0
  replace ka1 := cell_later hmk ka1
  replace T0 := Lib.hid (T0.out.below hmk)
  replace HB := Lib.hid (HB.out.trans (hmk.mono HB.out.size))
  have T1 := Lib.hid (IntsIn.mk hkT1 A1 hz1)
  clear hkT1
  clear hmk
  go_wp2_with fail
  have C := specEncodeVector _ _ _ _ _ _ _ _ L0.length R0.length z1.length L0 R0 z1 T0.out.sides T1.out.ints ⟨Nat.le_refl _, hlen1⟩
  rw [HRV.out] at C
  refine (C).mono ?_
  rintro e w15 ⟨rfl, hmk⟩
  have hsw15 := hmk.size
  replace A0 := A0.below hmk
  replace A1 := A1.below hmk
  replace ka0 := cell_later hmk ka0
  replace ka1 := cell_later hmk ka1
  replace T0 := Lib.hid (T0.out.below hmk)
  replace T1 := Lib.hid (T1.out.below hmk)
  replace HB := Lib.hid (HB.out.trans (hmk.mono HB.out.size))
  clear hmk
  clear C
  clear T0
  clear T1
  go_wp2_with fail
  refine (toBook_any _ _ _ _ _ _ _ L0 R0 A0 HL0.out.1 HL0.out.2).mono ?_
  rintro e w16 ⟨BLX0, BRX0, blX0, brX0, rfl, hkX0, hmk⟩
  have hsw16 := hmk.size
  replace A0 := A0.below hmk
  replace A1 := A1.below hmk
  replace ka0 := cell_later hmk ka0
  replace ka1 := cell_later hmk ka1
  replace HB := Lib.hid (HB.out.trans (hmk.mono HB.out.size))
  have X0 := Lib.hid hkX0
  clear hkX0
  clear hmk
  go_wp2_with fail
  have hmk := (Below.refl w16.heap.size w16).alloc (Nat.le_refl _) (.cells #[.slice (some ⟨BLX0, 0, none⟩) L0.length L0.length, .slice (some ⟨BRX0, 0, none⟩) R0.length R0.length] 25)
  have XV := heap_alloc_new w16 (.cells #[.slice (some ⟨BLX0, 0, none⟩) L0.length L0.length, .slice (some ⟨BRX0, 0, none⟩) R0.length R0.length] 25)
  have kx0 := cells2_0 XV
  have kx1 := cells2_1 XV
  have hxv : w16.heap.size < (w16.alloc (.cells #[.slice (some ⟨BLX0, 0, none⟩) L0.length L0.length, .slice (some ⟨BRX0, 0, none⟩) R0.length R0.length] 25)).heap.size := by simp
  clear XV
  replace A0 := A0.below hmk
  replace A1 := A1.below hmk
  replace ka0 := cell_later hmk ka0
  replace ka1 := cell_later hmk ka1
  replace X0 := Lib.hid (X0.out.below hmk)
  replace HB := Lib.hid (HB.out.trans (hmk.mono HB.out.size))
  clear hmk
  obtain ⟨w17, hww⟩ : ∃ w17, w16.alloc (.cells #[.slice (some ⟨BLX0, 0, none⟩) L0.length L0.length, .slice (some ⟨BRX0, 0, none⟩) R0.length R0.length] 25) = w17 := ⟨_, rfl⟩
  obtain ⟨vx, hvx⟩ : ∃ vx, w16.heap.size = vx := ⟨_, rfl⟩
  rw [hvx] at kx0 kx1
  rw [hww] at A0 A1 ka0 ka1 X0 HB kx0 kx1 hxv ⊢
  have hvx1 : vx = w16.heap.size := hvx.symm
  rw [hvx]
  have hvx2 : vx ≤ w16.heap.size := by omega
  have hvx3 : w16.heap.size ≤ vx := by omega
  clear hww hvx hvx1
  go_wp2_with fail
  refine (toIntS_any _ _ _ _ _ z1 A1 hz1).mono ?_
  rintro e w18 ⟨rfl, hkX1, hmk⟩
  have hsw18 := hmk.size
  replace A0 := A0.below hmk
  replace A1 := A1.below hmk
  replace ka0 := cell_later hmk ka0
  replace ka1 := cell_later hmk ka1
  replace X0 := Lib.hid (X0.out.below hmk)
  replace kx0 := cell_later hmk kx0
  replace kx1 := cell_later hmk kx1
  replace HB := Lib.hid (HB.out.trans (hmk.mono HB.out.size))
  have X1 := Lib.hid (IntsIn.mk hkX1 A1 hz1)
  clear hkX1
  clear hmk
  go_wp2_with fail
  have C := implEncodeVector _ _ _ _ _ _ _ _ L0.length R0.length z1.length L0 R0 z1 X0.out.sides X1.out.ints ⟨Nat.le_refl _, hlen1⟩
  rw [HRV.out] at C
  refine (C).mono ?_
  rintro e w19 ⟨rfl, hmk⟩
  have hsw19 := hmk.size
  replace A0 := A0.below hmk
  replace A1 := A1.below hmk
  replace ka0 := cell_later hmk ka0
  replace ka1 := cell_later hmk ka1
  replace X0 := Lib.hid (X0.out.below hmk)
  replace kx0 := cell_later hmk kx0
  replace kx1 := cell_later hmk kx1
  replace X1 := Lib.hid (X1.out.below hmk)
  replace HB := Lib.hid (HB.out.trans (hmk.mono HB.out.size))
  clear hmk
  clear C
  go_wp2_with fail
  have hdd := (Below.refl w19.heap.size w19).drew
  have HTB := Lib.hid (toBook_any w19.drew _ _ _ _ cap0 cap0' L0 R0 (A0.below hdd) HL0.out.1 HL0.out.2)
  have KD := Lib.hid (show ∀ w', Below w19.heap.size w19 w' → w'.cell? ⟨w.heap.size, 0, none⟩ = some (.slice a0 L0.length cap0) ∧ w'.cell? ⟨w.heap.size, 1, none⟩ = some (.slice b0 R0.length cap0') ∧ w'.cell? ⟨vx, 0, none⟩ = some (.slice (some ⟨BLX0, 0, none⟩) L0.length L0.length) ∧ w'.cell? ⟨vx, 1, none⟩ = some (.slice (some ⟨BRX0, 0, none⟩) R0.length R0.length) from fun w' bl => ⟨cell_later bl ka0, cell_later bl ka1, cell_later bl kx0, cell_later bl kx1⟩)
  have HDD := Lib.hid hdd
  clear hdd
  go_region_held3 (fun w' => w'.cell? ⟨w.heap.size, 0, none⟩ = some (.slice a0 L0.length cap0) ∧ w'.cell? ⟨w.heap.size, 1, none⟩ = some (.slice b0 R0.length cap0') ∧ w'.cell? ⟨vx, 0, none⟩ = some (.slice (some ⟨BLX0, 0, none⟩) L0.length L0.length) ∧ w'.cell? ⟨vx, 1, none⟩ = some (.slice (some ⟨BRX0, 0, none⟩) R0.length R0.length))
    (first | go_keep | exact KD.out _ HDD.out | exact KD.out _ HW2.out | exact KD.out _ HW3.out)
    (first
      | (go_at_call 19; refine HTB.out.mono ?_; rintro e w21 ⟨BLY, BRY, blY, brY, rfl, hkY, hmk⟩; have HW2 := Lib.hid (HDD.out.trans hmk); have HY := Lib.hid hkY; clear hkY hmk)
      | (go_at_call 20; have hX := X0.out.below HW2.out; refine (eqBook_same w21 _ _ _ _ _ _ _ _ L0.length R0.length L0.length R0.length L0 R0 hX.sides HY.out.sides).mono ?_; rintro e w22 ⟨rfl, hmk⟩; have HW3 : Hid (Below w19.heap.size w19 w22) := Lib.hid (HW2.out.trans (hmk.mono HW2.out.size)); clear hmk hX))
  have hmk := HW3.out
  have hsw22 := hmk.size
  replace A0 := A0.below hmk
  replace A1 := A1.below hmk
  replace ka0 := cell_later hmk ka0
  replace ka1 := cell_later hmk ka1
  replace X0 := Lib.hid (X0.out.below hmk)
  replace kx0 := cell_later hmk kx0
  replace kx1 := cell_later hmk kx1
  replace X1 := Lib.hid (X1.out.below hmk)
  replace HB := Lib.hid (HB.out.trans (hmk.mono HB.out.size))
  clear hmk HTB KD HDD HW2 HW3 HY
  go_wp2_with fail
  refine (toIntS_any _ _ _ _ _ z1 A1 hz1).mono ?_
  rintro e w23 ⟨rfl, hkY1, hmk⟩
  have hsw23 := hmk.size
  replace A0 := A0.below hmk
  replace A1 := A1.below hmk
  replace ka0 := cell_later hmk ka0
  replace ka1 := cell_later hmk ka1
  replace X0 := Lib.hid (X0.out.below hmk)
  replace kx0 := cell_later hmk kx0
  replace kx1 := cell_later hmk kx1
  replace X1 := Lib.hid (X1.out.below hmk)
  replace HB := Lib.hid (HB.out.trans (hmk.mono HB.out.size))
  have Y1 := Lib.hid (IntsIn.mk hkY1 A1 hz1)
  clear hkY1
  clear hmk
  go_wp2_with fail
  refine (eqIntS_any _ _ _ _ _ _ _ _ _ z1 z1 X1.out.ints Y1.out.ints).mono ?_
  rintro e w24 ⟨rfl, hmk⟩
  have hsw24 := size_drawn hmk
  replace A0 := A0.drawn hmk
  replace A1 := A1.drawn hmk
  replace ka0 := hmk.cell ka0
  replace ka1 := hmk.cell ka1
  replace X0 := Lib.hid (X0.out.drawn hmk)
  replace kx0 := hmk.cell kx0
  replace kx1 := hmk.cell kx1
  replace X1 := Lib.hid (X1.out.drawn hmk)
  replace HB := Lib.hid (HB.out.trans hmk.below)
  rw [eqL_self]
  clear hmk
  clear Y1
  go_wp2_with fail
  go_ret
  exact ⟨rfl, HB.out⟩
theorem own : ownKnob Try.prog.godebug = none := by kernel_rfl
theorem laidOut : laidOutB Try.prog = true := by kernel_rfl

set_option maxRecDepth 100000 in
theorem lifted (os : Os) (started : os.Started) (H : Type) (enc : TypeId × Value → H) :
    ReturnsInHanded {} Try.checked os 11 .any (Rows.fnExactEncodeVectorSpec.pre6 enc Try.prog Try.f11 Rows.fnExactEncodeVectorRow.domain false) (Rows.fnExactEncodeVectorSpec.post enc Try.prog Try.f11 false true false false) := by
  refine returnsInHanded_of_change (C := Try.checked) own started (by kernel_rfl) Try.func11
    (ChangeSpec.witness6 (enc := enc) (C := Try.checked) false ⟨#[], #[.agg #[.slice none 0 0, .slice none 0 0], .slice none 0 0], []⟩ 8 (by kernel_rfl) (by kernel_rfl) (by kernel_rfl) (by kernel_rfl)) ?_
  intro W base args ds gs before hval0 hW hcnd _
  have hval : ∀ (j : Nat) t v, Try.f11.params[j]? = some t → args[j]? = some v → Value.okWide Try.prog W .any base t v := hval0
  have hW' := hW
  obtain ⟨p, q, hA0, hV, rfl, hfz, hnd⟩ := hW
  have hA : DataW.TrodAll enc Try.prog W 0 (fun _ => true) true Try.f11.params.toList args.toList ds p := hA0
  rw [Try.params11] at hA hval
  obtain ⟨v0, vs0, d0, ds0, p0, q0, hargs, rfl, rfl, h0, r0⟩ := trodAll_cons hA
  obtain ⟨v1, vs1, d1, ds1, p1, q1, rfl, rfl, rfl, h1, r1⟩ := trodAll_cons r0
  obtain ⟨rfl, rfl, rfl⟩ := trodAll_nil r1
  obtain rfl : args = #[v0, v1] := by cases args; simp_all
  obtain ⟨rfl, rfl⟩ := trodVars_none hV
  have k0 := h0
  have lt0 : ∀ x ∈ p0, x.block < W.heap.size := by obtain ⟨m, hm⟩ := k0; exact DataW.trod_lt m _ _ _ hm
  obtain ⟨a0, b0, cap0, cap0', L0, R0, hv0, w0⟩ := book_of_trod (hval 0 29 v0 rfl rfl) h0
  subst hv0
  obtain ⟨a1, len1, cap1, rfl⟩ := okWide_slice Try.underlying36 (hval 1 36 v1 rfl rfl)
  have k1 := h1
  have lt1 : ∀ x ∈ p1, x.block < W.heap.size := by obtain ⟨m, hm⟩ := k1; exact DataW.trod_lt m _ _ _ hm
  obtain ⟨fuel1, hf1⟩ := h1
  obtain ⟨z1, hz1, w1⟩ := ints_of_trod hf1
  subst hz1
  clear hA0 hval0
  refine (walk a0 b0 cap0 cap0' L0 R0 a1 cap1 z1 W w0 w1).mono fun e W' ⟨he, bel⟩ => ?_
  subst he
  exact ⟨_, rfl, _, _, _, [], _, [], hW', trodAll_mk1 (shut_bool Try.underlying4 _), (trodAll_cons_mk (Below.trod laidOut (by kernel_rfl) (of_decide_eq_true (by kernel_rfl)) k0 bel lt0) (trodAll_cons_mk (Below.trod laidOut (by kernel_rfl) (of_decide_eq_true (by kernel_rfl)) k1 bel lt1) trodAll_mk0)), rfl, bel.frame _, fun h => by cases h⟩

theorem over : Rows.fnExactEncodeVectorRow.holds Try.pinned (OpenSpec.ofChange Rows.fnExactEncodeVectorSpec) :=
  OpenClaim.holds_of_wide 11 Try.f11 rfl rfl rfl rfl rfl rfl rfl ⟨rfl, rfl, rfl, rfl, rfl⟩ rfl rfl rfl rfl rfl (by kernel_rfl) Try.func11 (by kernel_rfl)
    (of_decide_eq_true (by kernel_rfl)) (by unfold Func.isWrapper; first | (rw [if_pos (by decide +kernel)]; kernel_rfl) | (rw [if_neg (by decide +kernel)]; exact ⟨rfl, rfl⟩))
    (fun os started H enc _ => lifted os started H enc)

/-- THE STATEMENT -/
theorem proved : Rows.FnExactEncodeVectorSaid :=
  over
#print axioms proved
end Go.Proofs.Ytnfjbjlcglfabaa.fnExactEncodeVector
