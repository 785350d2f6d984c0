/-
  For all arguments CodeDistances of the program returns what the reference returns, and leaves its arguments as they were; the result shares no memory with them. No condition.
-/
import Derived.Test.YtnfjbjlcglfabaaRows
import Derived.Test.YtnfjbjlcglfabaaBookNew
import Derived.Test.YtnfjbjlcglfabaaBookExact
import Derived.Deep.RegionHeld3
import Derived.Test.YtnfjbjlcglfabaaArgs
import Derived.Test.YtnfjbjlcglfabaaArgsBook
import Derived.ProofKit
import Derived.OpenShut
import Derived.ShutString
import Derived.ChangeOld
namespace Go.Proofs.Ytnfjbjlcglfabaa.fnExactCodeDistances
open Go.ChangeShapes Go.WideShapes Go.ChangeAt Go.RowKit
set_option linter.unusedVariables false

set_option maxHeartbeats 4000000 in
theorem walk (a0 b0 : Option Addr) (cap0 cap0' : Nat) (L0 R0 : List (List Int)) (a1 : Option Addr) (cap1 : Nat) (z1 : List Int) (w : World) (w0 : Sides w 0 w.heap.size a0 b0 L0 R0 ∧ Cap L0.length cap0 ∧ Cap R0.length cap0') (w1 : Ints w 0 w.heap.size a1 z1 ∧ Cap z1.length cap1) :
    Calls Try.prog 13 #[.agg #[.slice a0 L0.length cap0, .slice b0 R0.length cap0'], .slice a1 z1.length cap1] w fun e w' => e = .returned (.bool true) ∧ Below w.heap.size w w' := by
  have HB : Hid (Below w.heap.size w w) := Lib.hid (Below.refl _ _)
  obtain ⟨A0, -⟩ := w0
  obtain ⟨A1, -⟩ := w1
  have hlen1 := A1.len
  have hWW : w.heap.size ≤ w.heap.size := Nat.le_refl _
  have hmk := (Below.refl w.heap.size w).alloc (Nat.le_refl _) (.cells #[.slice a0 L0.length cap0, .slice b0 R0.length cap0'] 29)
  have X0 := heap_alloc_new w (.cells #[.slice a0 L0.length cap0, .slice b0 R0.length cap0'] 29)
  have ka0 := cells2_0 X0
  have ka1 := cells2_1 X0
  have hsa := hmk.size
  have hsa2 : w.heap.size < (w.alloc (.cells #[.slice a0 L0.length cap0, .slice b0 R0.length cap0'] 29)).heap.size := by simp
  clear X0
  replace A0 := A0.below hmk
  replace A1 := A1.below hmk
  replace HB := Lib.hid (HB.out.trans (hmk.mono HB.out.size))
  clear hmk
  by_cases hbig1 : 1048576 < z1.length
  · have hbi1 : (1048576 : Int) < z1.length := by omega
    go_enter Try.func13, Try.ntmps13
    go_wp2_with fail
    go_ret
    exact ⟨rfl, HB.out⟩
  have hz1 : z1.length ≤ 1048576 := by omega
  have hbj1 : decide ((1048576 : Int) < (z1.length : Int)) = false := decide_eq_false (by omega)
  go_enter Try.func13, Try.ntmps13
  have r0 : (0 : Int) ≤ 1048576 := by omega
  have rr : (1048576 : Int) ≤ 1048576 := by omega
  go_wp2_with fail
  refine (szBook_any _ _ _ _ _ _ _ L0 R0 _ A0 r0 rr).mono ?_
  rintro e w12 ⟨lf0, rfl, hlf0, hmk⟩
  have hsw12 := hmk.size
  replace A0 := A0.below hmk
  replace A1 := A1.below hmk
  replace ka0 := cell_later hmk ka0
  replace ka1 := cell_later hmk ka1
  replace HB := Lib.hid (HB.out.trans (hmk.mono HB.out.size))
  clear hmk
  rcases hlf0 with rfl | ⟨p0, q0, hLL0, hLR0⟩
  · go_wp2_with fail
    go_ret
    exact ⟨rfl, HB.out⟩
  have qq0 : lf0 ≤ 1048576 := by omega
  have HL0 := Lib.hid (And.intro (hLL0.mono rr) (hLR0.mono rr))
  clear hLL0 hLR0
  obtain ⟨rv, hrv⟩ : ∃ rv, disV L0 R0 z1 = rv := ⟨_, rfl⟩
  have HRV := Lib.hid hrv
  clear hrv
  have HOK : Hid ((∀ x ∈ rv, -9223372036854775808 ≤ x ∧ x ≤ 9223372036854775807) ∧ rv.length ≤ 9223372036854775807 ∧ rv.length ≤ 1048576) := Lib.hid (by rw [← HRV.out]; exact disV_ok L0 R0 z1)
  go_wp2_with fail
  refine (toBook_any _ _ _ _ _ _ _ L0 R0 A0 HL0.out.1 HL0.out.2).mono ?_
  rintro e w13 ⟨BLT0, BRT0, blT0, brT0, rfl, hkT0, hmk⟩
  have hsw13 := hmk.size
  replace A0 := A0.below hmk
  replace A1 := A1.below hmk
  replace ka0 := cell_later hmk ka0
  replace ka1 := cell_later hmk ka1
  replace HB := Lib.hid (HB.out.trans (hmk.mono HB.out.size))
  have T0 := Lib.hid hkT0
  clear hkT0
  clear hmk
  go_wp2_with fail
  refine (toIntS_any _ _ _ _ _ z1 A1 hz1).mono ?_
  rintro e w14 ⟨rfl, hkT1, hmk⟩
  have hsw14 := hmk.size
  replace A0 := A0.below hmk
  replace A1 := A1.below hmk
  replace ka0 := cell_later hmk ka0
  replace ka1 := cell_later hmk ka1
  replace T0 := Lib.hid (T0.out.below hmk)
  replace HB := Lib.hid (HB.out.trans (hmk.mono HB.out.size))
  have T1 := Lib.hid (IntsIn.mk hkT1 A1 hz1)
  clear hkT1
  clear hmk
  go_wp2_with fail
  have C := specCodeDistances_new _ _ _ _ _ _ _ _ L0.length R0.length z1.length L0 R0 z1 T0.out.sides T1.out.ints
  rw [HRV.out] at C
  refine (C).mono ?_
  rintro e w15 ⟨gW0, cpW0, rfl, hoW0, hmk⟩
  have hsw15 := hmk.size
  replace A0 := A0.below hmk
  replace A1 := A1.below hmk
  replace ka0 := cell_later hmk ka0
  replace ka1 := cell_later hmk ka1
  replace T0 := Lib.hid (T0.out.below hmk)
  replace T1 := Lib.hid (T1.out.below hmk)
  replace HB := Lib.hid (HB.out.trans (hmk.mono HB.out.size))
  have W0 : Hid (IntsO w15 w14.heap.size w15.heap.size gW0 rv) := Lib.hid (owns_mark hoW0 HOK.out.1 HOK.out.2.1).2
  clear hoW0
  clear hmk
  clear C
  clear T0
  clear T1
  go_wp2_with fail
  refine (toBook_any _ _ _ _ _ _ _ L0 R0 A0 HL0.out.1 HL0.out.2).mono ?_
  rintro e w16 ⟨BLX0, BRX0, blX0, brX0, rfl, hkX0, hmk⟩
  have hsw16 := hmk.size
  replace A0 := A0.below hmk
  replace A1 := A1.below hmk
  replace ka0 := cell_later hmk ka0
  replace ka1 := cell_later hmk ka1
  replace W0 := Lib.hid (W0.out.below hmk)
  replace HB := Lib.hid (HB.out.trans (hmk.mono HB.out.size))
  have X0 := Lib.hid hkX0
  clear hkX0
  clear hmk
  go_wp2_with fail
  have hmk := (Below.refl w16.heap.size w16).alloc (Nat.le_refl _) (.cells #[.slice (some ⟨BLX0, 0, none⟩) L0.length L0.length, .slice (some ⟨BRX0, 0, none⟩) R0.length R0.length] 25)
  have XV := heap_alloc_new w16 (.cells #[.slice (some ⟨BLX0, 0, none⟩) L0.length L0.length, .slice (some ⟨BRX0, 0, none⟩) R0.length R0.length] 25)
  have kx0 := cells2_0 XV
  have kx1 := cells2_1 XV
  have hxv : w16.heap.size < (w16.alloc (.cells #[.slice (some ⟨BLX0, 0, none⟩) L0.length L0.length, .slice (some ⟨BRX0, 0, none⟩) R0.length R0.length] 25)).heap.size := by simp
  clear XV
  replace A0 := A0.below hmk
  replace A1 := A1.below hmk
  replace ka0 := cell_later hmk ka0
  replace ka1 := cell_later hmk ka1
  replace W0 := Lib.hid (W0.out.below hmk)
  replace X0 := Lib.hid (X0.out.below hmk)
  replace HB := Lib.hid (HB.out.trans (hmk.mono HB.out.size))
  clear hmk
  obtain ⟨w17, hww⟩ : ∃ w17, w16.alloc (.cells #[.slice (some ⟨BLX0, 0, none⟩) L0.length L0.length, .slice (some ⟨BRX0, 0, none⟩) R0.length R0.length] 25) = w17 := ⟨_, rfl⟩
  obtain ⟨vx, hvx⟩ : ∃ vx, w16.heap.size = vx := ⟨_, rfl⟩
  rw [hvx] at kx0 kx1
  rw [hww] at A0 A1 ka0 ka1 W0 X0 HB kx0 kx1 hxv ⊢
  have hvx1 : vx = w16.heap.size := hvx.symm
  rw [hvx]
  have hvx2 : vx ≤ w16.heap.size := by omega
  have hvx3 : w16.heap.size ≤ vx := by omega
  clear hww hvx hvx1
  go_wp2_with fail
  refine (toIntS_any _ _ _ _ _ z1 A1 hz1).mono ?_
  rintro e w18 ⟨rfl, hkX1, hmk⟩
  have hsw18 := hmk.size
  replace A0 := A0.below hmk
  replace A1 := A1.below hmk
  replace ka0 := cell_later hmk ka0
  replace ka1 := cell_later hmk ka1
  replace W0 := Lib.hid (W0.out.below hmk)
  replace X0 := Lib.hid (X0.out.below hmk)
  replace kx0 := cell_later hmk kx0
  replace kx1 := cell_later hmk kx1
  replace HB := Lib.hid (HB.out.trans (hmk.mono HB.out.size))
  have X1 := Lib.hid (IntsIn.mk hkX1 A1 hz1)
  clear hkX1
  clear hmk
  go_wp2_with fail
  have C := implCodeDistances_new _ _ _ _ _ _ _ _ L0.length R0.length z1.length L0 R0 z1 X0.out.sides X1.out.ints
  rw [HRV.out] at C
  refine (C).mono ?_
  rintro e w19 ⟨gG0, cpG0, rfl, hoG0, hmk⟩
  have hsw19 := hmk.size
  replace A0 := A0.below hmk
  replace A1 := A1.below hmk
  replace ka0 := cell_later hmk ka0
  replace ka1 := cell_later hmk ka1
  replace W0 := Lib.hid (W0.out.below hmk)
  replace X0 := Lib.hid (X0.out.below hmk)
  replace kx0 := cell_later hmk kx0
  replace kx1 := cell_later hmk kx1
  replace X1 := Lib.hid (X1.out.below hmk)
  replace HB := Lib.hid (HB.out.trans (hmk.mono HB.out.size))
  have G0 : Hid (IntsO w19 w18.heap.size w19.heap.size gG0 rv) := Lib.hid (owns_mark hoG0 HOK.out.1 HOK.out.2.1).2
  clear hoG0
  clear hmk
  clear C
  go_wp2_with fail
  refine (eqIntS_any _ _ _ _ _ _ _ cpG0 cpW0 rv rv G0.out.1 W0.out.1).mono ?_
  rintro e w20 ⟨rfl, hmk⟩
  have hsw20 := size_drawn hmk
  replace A0 := A0.drawn hmk
  replace A1 := A1.drawn hmk
  replace ka0 := hmk.cell ka0
  replace ka1 := hmk.cell ka1
  replace W0 := Lib.hid (W0.out.drawn hmk)
  replace X0 := Lib.hid (X0.out.drawn hmk)
  replace kx0 := hmk.cell kx0
  replace kx1 := hmk.cell kx1
  replace X1 := Lib.hid (X1.out.drawn hmk)
  replace G0 := Lib.hid (G0.out.drawn hmk)
  replace HB := Lib.hid (HB.out.trans hmk.below)
  rw [eqL_self]
  clear hmk
  go_wp2_with fail
  have hdd := (Below.refl w20.heap.size w20).drew
  have HTB := Lib.hid (toBook_any w20.drew _ _ _ _ cap0 cap0' L0 R0 (A0.below hdd) HL0.out.1 HL0.out.2)
  have KD := Lib.hid (show ∀ w', Below w20.heap.size w20 w' → w'.cell? ⟨w.heap.size, 0, none⟩ = some (.slice a0 L0.length cap0) ∧ w'.cell? ⟨w.heap.size, 1, none⟩ = some (.slice b0 R0.length cap0') ∧ w'.cell? ⟨vx, 0, none⟩ = some (.slice (some ⟨BLX0, 0, none⟩) L0.length L0.length) ∧ w'.cell? ⟨vx, 1, none⟩ = some (.slice (some ⟨BRX0, 0, none⟩) R0.length R0.length) from fun w' bl => ⟨cell_later bl ka0, cell_later bl ka1, cell_later bl kx0, cell_later bl kx1⟩)
  have HDD := Lib.hid hdd
  clear hdd
  go_region_held3 (fun w' => w'.cell? ⟨w.heap.size, 0, none⟩ = some (.slice a0 L0.length cap0) ∧ w'.cell? ⟨w.heap.size, 1, none⟩ = some (.slice b0 R0.length cap0') ∧ w'.cell? ⟨vx, 0, none⟩ = some (.slice (some ⟨BLX0, 0, none⟩) L0.length L0.length) ∧ w'.cell? ⟨vx, 1, none⟩ = some (.slice (some ⟨BRX0, 0, none⟩) R0.length R0.length))
    (first | go_keep | exact KD.out _ HDD.out | exact KD.out _ HW2.out | exact KD.out _ HW3.out)
    (first
      | (go_at_call 19; refine HTB.out.mono ?_; rintro e w22 ⟨BLY, BRY, blY, brY, rfl, hkY, hmk⟩; have HW2 := Lib.hid (HDD.out.trans hmk); have HY := Lib.hid hkY; clear hkY hmk)
      | (go_at_call 20; have hX := X0.out.below HW2.out; refine (eqBook_same w22 _ _ _ _ _ _ _ _ L0.length R0.length L0.length R0.length L0 R0 hX.sides HY.out.sides).mono ?_; rintro e w23 ⟨rfl, hmk⟩; have HW3 : Hid (Below w20.heap.size w20 w23) := Lib.hid (HW2.out.trans (hmk.mono HW2.out.size)); clear hmk hX))
  have hmk := HW3.out
  have hsw23 := hmk.size
  replace A0 := A0.below hmk
  replace A1 := A1.below hmk
  replace ka0 := cell_later hmk ka0
  replace ka1 := cell_later hmk ka1
  replace W0 := Lib.hid (W0.out.below hmk)
  replace X0 := Lib.hid (X0.out.below hmk)
  replace kx0 := cell_later hmk kx0
  replace kx1 := cell_later hmk kx1
  replace X1 := Lib.hid (X1.out.below hmk)
  replace G0 := Lib.hid (G0.out.below hmk)
  replace HB := Lib.hid (HB.out.trans (hmk.mono HB.out.size))
  clear hmk HTB KD HDD HW2 HW3 HY
  go_wp2_with fail
  refine (toIntS_any _ _ _ _ _ z1 A1 hz1).mono ?_
  rintro e w24 ⟨rfl, hkY1, hmk⟩
  have hsw24 := hmk.size
  replace A0 := A0.below hmk
  replace A1 := A1.below hmk
  replace ka0 := cell_later hmk ka0
  replace ka1 := cell_later hmk ka1
  replace W0 := Lib.hid (W0.out.below hmk)
  replace X0 := Lib.hid (X0.out.below hmk)
  replace kx0 := cell_later hmk kx0
  replace kx1 := cell_later hmk kx1
  replace X1 := Lib.hid (X1.out.below hmk)
  replace G0 := Lib.hid (G0.out.below hmk)
  replace HB := Lib.hid (HB.out.trans (hmk.mono HB.out.size))
  have Y1 := Lib.hid (IntsIn.mk hkY1 A1 hz1)
  clear hkY1
  clear hmk
  go_wp2_with fail
  refine (eqIntS_any _ _ _ _ _ _ _ _ _ z1 z1 X1.out.ints Y1.out.ints).mono ?_
  rintro e w25 ⟨rfl, hmk⟩
  have hsw25 := size_drawn hmk
  replace A0 := A0.drawn hmk
  replace A1 := A1.drawn hmk
  replace ka0 := hmk.cell ka0
  replace ka1 := hmk.cell ka1
  replace W0 := Lib.hid (W0.out.drawn hmk)
  replace X0 := Lib.hid (X0.out.drawn hmk)
  replace kx0 := hmk.cell kx0
  replace kx1 := hmk.cell kx1
  replace X1 := Lib.hid (X1.out.drawn hmk)
  replace G0 := Lib.hid (G0.out.drawn hmk)
  replace HB := Lib.hid (HB.out.trans hmk.below)
  rw [eqL_self]
  clear hmk
  clear Y1
  have kk0 : (0 : Int) ≤ 1 := by omega
  have kk1 : (1 : Int) ≤ 1 := by omega
  go_wp2_with fail
  refine (markBook_any _ _ _ _ _ _ _ L0 R0 _ X0.out (by omega) (by omega) (by omega)).mono ?_
  rintro e w26 ⟨km0, rfl, hm0a, hm0b, hmk⟩
  have hsw26 := hmk.size
  clear X0
  replace A0 := A0.upd hmk (by omega)
  replace A1 := A1.upd hmk (by omega)
  replace ka0 := hmk.cell ka0 (by dsimp only; omega)
  replace ka1 := hmk.cell ka1 (by dsimp only; omega)
  replace W0 := Lib.hid (W0.out.upd hmk (by omega))
  replace kx0 := hmk.cell kx0 (by dsimp only; omega)
  replace kx1 := hmk.cell kx1 (by dsimp only; omega)
  replace X1 := Lib.hid (X1.out.upd hmk (by omega))
  replace G0 := Lib.hid (G0.out.upd hmk (by omega))
  replace HB := Lib.hid (HB.out.trans (hmk.low (by omega) (by omega)))
  clear hmk
  go_wp2_with fail
  refine (markIntS_any _ _ _ _ _ z1 _ X1.out.tight X1.out.blk (by have := X1.out.2.2.2.2; omega) (by omega) (by omega)).mono ?_
  rintro e w27 ⟨rfl, -, -, hmk, -⟩
  have hsw27 := hmk.size
  clear X1
  replace A0 := A0.upd hmk (by omega)
  replace A1 := A1.upd hmk (by omega)
  replace ka0 := hmk.cell ka0 (by dsimp only; omega)
  replace ka1 := hmk.cell ka1 (by dsimp only; omega)
  replace W0 := Lib.hid (W0.out.upd hmk (by omega))
  replace kx0 := hmk.cell kx0 (by dsimp only; omega)
  replace kx1 := hmk.cell kx1 (by dsimp only; omega)
  replace G0 := Lib.hid (G0.out.upd hmk (by omega))
  replace HB := Lib.hid (HB.out.trans (hmk.low (by omega) (by omega)))
  clear hmk
  have hlz1 : (0 : Int) ≤ (z1.length : Int) := by omega
  go_wp2_with fail
  refine (eqIntS_any _ _ _ _ _ _ _ cpG0 cpW0 rv rv G0.out.1 W0.out.1).mono ?_
  rintro e w28 ⟨rfl, hmk⟩
  have hsw28 := size_drawn hmk
  replace A0 := A0.drawn hmk
  replace A1 := A1.drawn hmk
  replace ka0 := hmk.cell ka0
  replace ka1 := hmk.cell ka1
  replace W0 := Lib.hid (W0.out.drawn hmk)
  replace kx0 := hmk.cell kx0
  replace kx1 := hmk.cell kx1
  replace G0 := Lib.hid (G0.out.drawn hmk)
  replace HB := Lib.hid (HB.out.trans hmk.below)
  rw [eqL_self]
  clear hmk
  go_wp2_with fail
  refine (markIntS_any _ _ _ _ _ rv 1 G0.out.1 G0.out.2 (by have := HOK.out.2.2; omega) (by omega) (by omega)).mono ?_
  rintro e w29 ⟨rfl, hg1, hg2, hmk, -⟩
  have hsw29 := hmk.size
  have GM := Lib.hid (And.intro hg1 hg2)
  clear hg1 hg2 G0
  replace A0 := A0.upd hmk (by omega)
  replace A1 := A1.upd hmk (by omega)
  replace ka0 := hmk.cell ka0 (by dsimp only; omega)
  replace ka1 := hmk.cell ka1 (by dsimp only; omega)
  replace W0 := Lib.hid (W0.out.upd hmk (by omega))
  replace kx0 := hmk.cell kx0 (by dsimp only; omega)
  replace kx1 := hmk.cell kx1 (by dsimp only; omega)
  replace HB := Lib.hid (HB.out.trans (hmk.low (by omega) (by omega)))
  clear hmk
  have GMI : Hid (IntsO w29 _ _ gG0 (upL 1 rv.length)) := GM
  clear GM
  have hrl : rv.length ≤ 1048576 := HOK.out.2.2
  go_wp2_with fail
  refine (heldIntS_any _ _ _ _ _ rv.length 1 GMI.out.1 (by omega) (by omega) (by omega)).mono ?_
  rintro e w30 ⟨rfl, rfl⟩
  go_wp2_with fail
  refine (toBook_any _ _ _ _ _ _ _ L0 R0 A0 HL0.out.1 HL0.out.2).mono ?_
  rintro e w31 ⟨BLS0, BRS0, blS0, brS0, rfl, hkS0, hmk⟩
  have hsw31 := hmk.size
  replace A0 := A0.below hmk
  replace A1 := A1.below hmk
  replace ka0 := cell_later hmk ka0
  replace ka1 := cell_later hmk ka1
  replace W0 := Lib.hid (W0.out.below hmk)
  replace kx0 := cell_later hmk kx0
  replace kx1 := cell_later hmk kx1
  replace GMI := Lib.hid (GMI.out.below hmk)
  replace HB := Lib.hid (HB.out.trans (hmk.mono HB.out.size))
  have S0 := Lib.hid hkS0
  clear hkS0
  clear hmk
  go_wp2_with fail
  refine (toIntS_any _ _ _ _ _ z1 A1 hz1).mono ?_
  rintro e w32 ⟨rfl, hkS1, hmk⟩
  have hsw32 := hmk.size
  replace A0 := A0.below hmk
  replace A1 := A1.below hmk
  replace ka0 := cell_later hmk ka0
  replace ka1 := cell_later hmk ka1
  replace W0 := Lib.hid (W0.out.below hmk)
  replace kx0 := cell_later hmk kx0
  replace kx1 := cell_later hmk kx1
  replace GMI := Lib.hid (GMI.out.below hmk)
  replace S0 := Lib.hid (S0.out.below hmk)
  replace HB := Lib.hid (HB.out.trans (hmk.mono HB.out.size))
  have S1 := Lib.hid (IntsIn.mk hkS1 A1 hz1)
  clear hkS1
  clear hmk
  go_wp2_with fail
  have C := implCodeDistances_new _ _ _ _ _ _ _ _ L0.length R0.length z1.length L0 R0 z1 S0.out.sides S1.out.ints
  rw [HRV.out] at C
  refine (C).mono ?_
  rintro e w33 ⟨gH0, cpH0, rfl, hoH0, hmk⟩
  have hsw33 := hmk.size
  replace A0 := A0.below hmk
  replace A1 := A1.below hmk
  replace ka0 := cell_later hmk ka0
  replace ka1 := cell_later hmk ka1
  replace W0 := Lib.hid (W0.out.below hmk)
  replace kx0 := cell_later hmk kx0
  replace kx1 := cell_later hmk kx1
  replace GMI := Lib.hid (GMI.out.below hmk)
  replace S0 := Lib.hid (S0.out.below hmk)
  replace S1 := Lib.hid (S1.out.below hmk)
  replace HB := Lib.hid (HB.out.trans (hmk.mono HB.out.size))
  have H0 : Hid (IntsO w33 w32.heap.size w33.heap.size gH0 rv) := Lib.hid (owns_mark hoH0 HOK.out.1 HOK.out.2.1).2
  clear hoH0
  clear hmk
  clear C
  clear S0
  clear S1
  go_wp2_with fail
  refine (eqIntS_any _ _ _ _ _ _ _ cpH0 cpW0 rv rv H0.out.1 W0.out.1).mono ?_
  rintro e w34 ⟨rfl, hmk⟩
  have hsw34 := size_drawn hmk
  replace A0 := A0.drawn hmk
  replace A1 := A1.drawn hmk
  replace ka0 := hmk.cell ka0
  replace ka1 := hmk.cell ka1
  replace W0 := Lib.hid (W0.out.drawn hmk)
  replace kx0 := hmk.cell kx0
  replace kx1 := hmk.cell kx1
  replace GMI := Lib.hid (GMI.out.drawn hmk)
  replace H0 := Lib.hid (H0.out.drawn hmk)
  replace HB := Lib.hid (HB.out.trans hmk.below)
  rw [eqL_self]
  clear hmk
  go_wp2_with fail
  refine (heldIntS_any _ _ _ _ _ rv.length 1 GMI.out.1 (by omega) (by omega) (by omega)).mono ?_
  rintro e w35 ⟨rfl, rfl⟩
  go_wp2_with fail
  go_ret
  exact ⟨rfl, HB.out⟩
theorem own : ownKnob Try.prog.godebug = none := by kernel_rfl
theorem laidOut : laidOutB Try.prog = true := by kernel_rfl

set_option maxRecDepth 100000 in
theorem lifted (os : Os) (started : os.Started) (H : Type) (enc : TypeId × Value → H) :
    ReturnsInHanded {} Try.checked os 13 .any (Rows.fnExactCodeDistancesSpec.pre6 enc Try.prog Try.f13 Rows.fnExactCodeDistancesRow.domain false) (Rows.fnExactCodeDistancesSpec.post enc Try.prog Try.f13 false true false false) := by
  refine returnsInHanded_of_change (C := Try.checked) own started (by kernel_rfl) Try.func13
    (ChangeSpec.witness6 (enc := enc) (C := Try.checked) false ⟨#[], #[.agg #[.slice none 0 0, .slice none 0 0], .slice none 0 0], []⟩ 8 (by kernel_rfl) (by kernel_rfl) (by kernel_rfl) (by kernel_rfl)) ?_
  intro W base args ds gs before hval0 hW hcnd _
  have hval : ∀ (j : Nat) t v, Try.f13.params[j]? = some t → args[j]? = some v → Value.okWide Try.prog W .any base t v := hval0
  have hW' := hW
  obtain ⟨p, q, hA0, hV, rfl, hfz, hnd⟩ := hW
  have hA : DataW.TrodAll enc Try.prog W 0 (fun _ => true) true Try.f13.params.toList args.toList ds p := hA0
  rw [Try.params13] at hA hval
  obtain ⟨v0, vs0, d0, ds0, p0, q0, hargs, rfl, rfl, h0, r0⟩ := trodAll_cons hA
  obtain ⟨v1, vs1, d1, ds1, p1, q1, rfl, rfl, rfl, h1, r1⟩ := trodAll_cons r0
  obtain ⟨rfl, rfl, rfl⟩ := trodAll_nil r1
  obtain rfl : args = #[v0, v1] := by cases args; simp_all
  obtain ⟨rfl, rfl⟩ := trodVars_none hV
  have k0 := h0
  have lt0 : ∀ x ∈ p0, x.block < W.heap.size := by obtain ⟨m, hm⟩ := k0; exact DataW.trod_lt m _ _ _ hm
  obtain ⟨a0, b0, cap0, cap0', L0, R0, hv0, w0⟩ := book_of_trod (hval 0 29 v0 rfl rfl) h0
  subst hv0
  obtain ⟨a1, len1, cap1, rfl⟩ := okWide_slice Try.underlying36 (hval 1 36 v1 rfl rfl)
  have k1 := h1
  have lt1 : ∀ x ∈ p1, x.block < W.heap.size := by obtain ⟨m, hm⟩ := k1; exact DataW.trod_lt m _ _ _ hm
  obtain ⟨fuel1, hf1⟩ := h1
  obtain ⟨z1, hz1, w1⟩ := ints_of_trod hf1
  subst hz1
  clear hA0 hval0
  refine (walk a0 b0 cap0 cap0' L0 R0 a1 cap1 z1 W w0 w1).mono fun e W' ⟨he, bel⟩ => ?_
  subst he
  exact ⟨_, rfl, _, _, _, [], _, [], hW', trodAll_mk1 (shut_bool Try.underlying4 _), (trodAll_cons_mk (Below.trod laidOut (by kernel_rfl) (of_decide_eq_true (by kernel_rfl)) k0 bel lt0) (trodAll_cons_mk (Below.trod laidOut (by kernel_rfl) (of_decide_eq_true (by kernel_rfl)) k1 bel lt1) trodAll_mk0)), rfl, bel.frame _, fun h => by cases h⟩

theorem over : Rows.fnExactCodeDistancesRow.holds Try.pinned (OpenSpec.ofChange Rows.fnExactCodeDistancesSpec) :=
  OpenClaim.holds_of_wide 13 Try.f13 rfl rfl rfl rfl rfl rfl rfl ⟨rfl, rfl, rfl, rfl, rfl⟩ rfl rfl rfl rfl rfl (by kernel_rfl) Try.func13 (by kernel_rfl)
    (of_decide_eq_true (by kernel_rfl)) (by unfold Func.isWrapper; first | (rw [if_pos (by decide +kernel)]; kernel_rfl) | (rw [if_neg (by decide +kernel)]; exact ⟨rfl, rfl⟩))
    (fun os started H enc _ => lifted os started H enc)

/-- THE STATEMENT -/
theorem proved : Rows.FnExactCodeDistancesSaid :=
  over
#print axioms proved
end Go.Proofs.Ytnfjbjlcglfabaa.fnExactCodeDistances
