/-
  For all arguments RerankNearest of the program returns what the reference returns, and leaves its arguments as they were; the result shares no memory with them. No condition.
-/
import Derived.Test.YtllahaebfhaobaaRows
import Derived.Test.YtllahaebfhaobaaRerankSpec
import Derived.Test.YtllahaebfhaobaaItemExact
import Derived.Test.YtllahaebfhaobaaHitMark
import Derived.Test.YtllahaebfhaobaaBookExact
import Derived.Deep.RegionHeld3
import Derived.Test.YtllahaebfhaobaaArgs
import Derived.Test.YtllahaebfhaobaaArgsBook
import Derived.Test.YtllahaebfhaobaaArgsItems
import Derived.ProofKit
import Derived.OpenShut
import Derived.ShutString
import Derived.ChangeOld
namespace Go.Proofs.Ytllahaebfhaobaa.fnExactRerankNearest
open Go.ChangeShapes Go.WideShapes Go.ChangeAt Go.RowKit
set_option linter.unusedVariables false

set_option maxHeartbeats 4000000 in
theorem walk (a0 b0 : Option Addr) (cap0 cap0' : Nat) (L0 R0 : List (List Int)) (a1 : Option Addr) (cap1 : Nat) (z1 : List It) (a2 : Option Addr) (cap2 : Nat) (z2 : List Int) (a3 : Int) (a4 : Int) (w : World) (w0 : Sides w 0 w.heap.size a0 b0 L0 R0 ∧ Cap L0.length cap0 ∧ Cap R0.length cap0') (w1 : Items w 0 w.heap.size a1 z1 ∧ Cap z1.length cap1) (w2 : Ints w 0 w.heap.size a2 z2 ∧ Cap z2.length cap2) (w3 : (Lit.int .i64 a3).wf = true) (w4 : (Lit.int .i64 a4).wf = true) :
    Calls Try.prog 6 #[.agg #[.slice a0 L0.length cap0, .slice b0 R0.length cap0'], .slice a1 z1.length cap1, .slice a2 z2.length cap2, .int .i64 a3, .int .i64 a4] w fun e w' => e = .returned (.bool true) ∧ Below w.heap.size w w' := by
  have HB : Hid (Below w.heap.size w w) := Lib.hid (Below.refl _ _)
  obtain ⟨A0, -⟩ := w0
  obtain ⟨A1, -⟩ := w1
  have hlen1 := A1.len
  obtain ⟨A2, -⟩ := w2
  have hlen2 := A2.len
  have hWW : w.heap.size ≤ w.heap.size := Nat.le_refl _
  have hmk := (Below.refl w.heap.size w).alloc (Nat.le_refl _) (.cells #[.slice a0 L0.length cap0, .slice b0 R0.length cap0'] 39)
  have X0 := heap_alloc_new w (.cells #[.slice a0 L0.length cap0, .slice b0 R0.length cap0'] 39)
  have ka0 := cells2_0 X0
  have ka1 := cells2_1 X0
  have hsa := hmk.size
  have hsa2 : w.heap.size < (w.alloc (.cells #[.slice a0 L0.length cap0, .slice b0 R0.length cap0'] 39)).heap.size := by simp
  clear X0
  replace A0 := A0.below hmk
  replace A1 := A1.below hmk
  replace A2 := A2.below hmk
  replace HB := Lib.hid (HB.out.trans (hmk.mono HB.out.size))
  clear hmk
  by_cases hbig2 : 1048576 < z2.length
  · have hbi2 : (1048576 : Int) < z2.length := by omega
    go_enter Try.func6, Try.ntmps6
    go_wp2_with fail
    go_ret
    exact ⟨rfl, HB.out⟩
  have hz2 : z2.length ≤ 1048576 := by omega
  have hbj2 : decide ((1048576 : Int) < (z2.length : Int)) = false := decide_eq_false (by omega)
  go_enter Try.func6, Try.ntmps6
  have r0 : (0 : Int) ≤ 1048576 := by omega
  have rr : (1048576 : Int) ≤ 1048576 := by omega
  go_wp2_with fail
  refine (szBook_any _ _ _ _ _ _ _ L0 R0 _ A0 r0 rr).mono ?_
  rintro e w12 ⟨lf0, rfl, hlf0, hmk⟩
  have hsw12 := hmk.size
  replace A0 := A0.below hmk
  replace A1 := A1.below hmk
  replace A2 := A2.below hmk
  replace ka0 := cell_later hmk ka0
  replace ka1 := cell_later hmk ka1
  replace HB := Lib.hid (HB.out.trans (hmk.mono HB.out.size))
  clear hmk
  rcases hlf0 with rfl | ⟨p0, q0, hLL0, hLR0⟩
  · go_wp2_with fail
    go_ret
    exact ⟨rfl, HB.out⟩
  have qq0 : lf0 ≤ 1048576 := by omega
  have HL0 := Lib.hid (And.intro (hLL0.mono rr) (hLR0.mono rr))
  clear hLL0 hLR0
  go_wp2_with fail
  refine (szItemS_any _ _ _ _ _ z1 _ A1 p0 qq0).mono ?_
  rintro e w13 ⟨lf1, rfl, hlf1, hmk⟩
  have hsw13 := hmk.size
  replace A0 := A0.below hmk
  replace A1 := A1.below hmk
  replace A2 := A2.below hmk
  replace ka0 := cell_later hmk ka0
  replace ka1 := cell_later hmk ka1
  replace HB := Lib.hid (HB.out.trans (hmk.mono HB.out.size))
  clear hmk
  rcases hlf1 with rfl | ⟨p1, q1, hLL1⟩
  · go_wp2_with fail
    go_ret
    exact ⟨rfl, HB.out⟩
  have qq1 : lf1 ≤ 1048576 := by omega
  have HL1 := Lib.hid (hLL1.mono qq0)
  clear hLL1
  obtain ⟨rv, hrv⟩ : ∃ rv, rkV L0 R0 z1 z2 a3 a4 = rv := ⟨_, rfl⟩
  have HRV := Lib.hid hrv
  clear hrv
  have HOK : Hid (rv.length ≤ 1048576) := Lib.hid (by rw [← HRV.out]; exact rkV_len L0 R0 z1 z2 a3 a4)
  have hrl : rv.length ≤ 1048576 := HOK.out
  have hpos : ¬ ((1 : Int) + 2 * (rv.length : Int) < 0) := by omega
  go_wp2_with fail
  refine (toBook_any _ _ _ _ _ _ _ L0 R0 A0 HL0.out.1 HL0.out.2).mono ?_
  rintro e w14 ⟨BLT0, BRT0, blT0, brT0, rfl, hkT0, hmk⟩
  have hsw14 := hmk.size
  replace A0 := A0.below hmk
  replace A1 := A1.below hmk
  replace A2 := A2.below hmk
  replace ka0 := cell_later hmk ka0
  replace ka1 := cell_later hmk ka1
  replace HB := Lib.hid (HB.out.trans (hmk.mono HB.out.size))
  have T0 := Lib.hid hkT0
  clear hkT0
  clear hmk
  go_wp2_with fail
  refine (toItemS_any _ _ _ _ _ z1 A1 HL1.out).mono ?_
  rintro e w15 ⟨bsT1, rfl, hkT1, hmk⟩
  have hsw15 := hmk.size
  replace A0 := A0.below hmk
  replace A1 := A1.below hmk
  replace A2 := A2.below hmk
  replace ka0 := cell_later hmk ka0
  replace ka1 := cell_later hmk ka1
  replace T0 := Lib.hid (T0.out.below hmk)
  replace HB := Lib.hid (HB.out.trans (hmk.mono HB.out.size))
  have T1 := Lib.hid hkT1
  clear hkT1
  clear hmk
  go_wp2_with fail
  refine (toIntS_any _ _ _ _ _ z2 A2 hz2).mono ?_
  rintro e w16 ⟨rfl, hkT2, hmk⟩
  have hsw16 := hmk.size
  replace A0 := A0.below hmk
  replace A1 := A1.below hmk
  replace A2 := A2.below hmk
  replace ka0 := cell_later hmk ka0
  replace ka1 := cell_later hmk ka1
  replace T0 := Lib.hid (T0.out.below hmk)
  replace T1 := Lib.hid (T1.out.below hmk)
  replace HB := Lib.hid (HB.out.trans (hmk.mono HB.out.size))
  have T2 := Lib.hid (IntsIn.mk hkT2 A2 hz2)
  clear hkT2
  clear hmk
  go_wp2_with fail
  have C := specRK _ _ _ _ _ _ _ _ _ _ _ L0.length R0.length z1.length z2.length a3 a4 L0 R0 z1 z2 T0.out.sides T1.out.items T2.out.ints
  rw [HRV.out] at C
  refine (C).mono ?_
  rintro e w17 ⟨gW0, cpW0, rfl, hoW0, hcpW0, hmk⟩
  have hsw17 := hmk.size
  replace A0 := A0.below hmk
  replace A1 := A1.below hmk
  replace A2 := A2.below hmk
  replace ka0 := cell_later hmk ka0
  replace ka1 := cell_later hmk ka1
  replace T0 := Lib.hid (T0.out.below hmk)
  replace T1 := Lib.hid (T1.out.below hmk)
  replace T2 := Lib.hid (T2.out.below hmk)
  replace HB := Lib.hid (HB.out.trans (hmk.mono HB.out.size))
  have W0 := Lib.hid hoW0
  clear hoW0 hcpW0
  clear hmk
  clear C
  clear T0
  clear T1
  clear T2
  go_wp2_with fail
  refine (toBook_any _ _ _ _ _ _ _ L0 R0 A0 HL0.out.1 HL0.out.2).mono ?_
  rintro e w18 ⟨BLX0, BRX0, blX0, brX0, rfl, hkX0, hmk⟩
  have hsw18 := hmk.size
  replace A0 := A0.below hmk
  replace A1 := A1.below hmk
  replace A2 := A2.below hmk
  replace ka0 := cell_later hmk ka0
  replace ka1 := cell_later hmk ka1
  replace W0 := Lib.hid (W0.out.below hmk)
  replace HB := Lib.hid (HB.out.trans (hmk.mono HB.out.size))
  have X0 := Lib.hid hkX0
  clear hkX0
  clear hmk
  go_wp2_with fail
  have hmk := (Below.refl w18.heap.size w18).alloc (Nat.le_refl _) (.cells #[.slice (some ⟨BLX0, 0, none⟩) L0.length L0.length, .slice (some ⟨BRX0, 0, none⟩) R0.length R0.length] 25)
  have XV := heap_alloc_new w18 (.cells #[.slice (some ⟨BLX0, 0, none⟩) L0.length L0.length, .slice (some ⟨BRX0, 0, none⟩) R0.length R0.length] 25)
  have kx0 := cells2_0 XV
  have kx1 := cells2_1 XV
  have hxv : w18.heap.size < (w18.alloc (.cells #[.slice (some ⟨BLX0, 0, none⟩) L0.length L0.length, .slice (some ⟨BRX0, 0, none⟩) R0.length R0.length] 25)).heap.size := by simp
  clear XV
  replace A0 := A0.below hmk
  replace A1 := A1.below hmk
  replace A2 := A2.below hmk
  replace ka0 := cell_later hmk ka0
  replace ka1 := cell_later hmk ka1
  replace W0 := Lib.hid (W0.out.below hmk)
  replace X0 := Lib.hid (X0.out.below hmk)
  replace HB := Lib.hid (HB.out.trans (hmk.mono HB.out.size))
  clear hmk
  obtain ⟨w19, hww⟩ : ∃ w19, w18.alloc (.cells #[.slice (some ⟨BLX0, 0, none⟩) L0.length L0.length, .slice (some ⟨BRX0, 0, none⟩) R0.length R0.length] 25) = w19 := ⟨_, rfl⟩
  obtain ⟨vx, hvx⟩ : ∃ vx, w18.heap.size = vx := ⟨_, rfl⟩
  rw [hvx] at kx0 kx1
  rw [hww] at A0 A1 A2 ka0 ka1 W0 X0 HB kx0 kx1 hxv ⊢
  have hvx1 : vx = w18.heap.size := hvx.symm
  rw [hvx]
  have hvx2 : vx ≤ w18.heap.size := by omega
  have hvx3 : w18.heap.size ≤ vx := by omega
  clear hww hvx hvx1
  go_wp2_with fail
  refine (toItemS_any _ _ _ _ _ z1 A1 HL1.out).mono ?_
  rintro e w20 ⟨bsX1, rfl, hkX1, hmk⟩
  have hsw20 := hmk.size
  replace A0 := A0.below hmk
  replace A1 := A1.below hmk
  replace A2 := A2.below hmk
  replace ka0 := cell_later hmk ka0
  replace ka1 := cell_later hmk ka1
  replace W0 := Lib.hid (W0.out.below hmk)
  replace X0 := Lib.hid (X0.out.below hmk)
  replace kx0 := cell_later hmk kx0
  replace kx1 := cell_later hmk kx1
  replace HB := Lib.hid (HB.out.trans (hmk.mono HB.out.size))
  have X1 := Lib.hid hkX1
  clear hkX1
  clear hmk
  go_wp2_with fail
  refine (toIntS_any _ _ _ _ _ z2 A2 hz2).mono ?_
  rintro e w21 ⟨rfl, hkX2, hmk⟩
  have hsw21 := hmk.size
  replace A0 := A0.below hmk
  replace A1 := A1.below hmk
  replace A2 := A2.below hmk
  replace ka0 := cell_later hmk ka0
  replace ka1 := cell_later hmk ka1
  replace W0 := Lib.hid (W0.out.below hmk)
  replace X0 := Lib.hid (X0.out.below hmk)
  replace kx0 := cell_later hmk kx0
  replace kx1 := cell_later hmk kx1
  replace X1 := Lib.hid (X1.out.below hmk)
  replace HB := Lib.hid (HB.out.trans (hmk.mono HB.out.size))
  have X2 := Lib.hid (IntsIn.mk hkX2 A2 hz2)
  clear hkX2
  clear hmk
  go_wp2_with fail
  have C := implRK _ _ _ _ _ _ _ _ _ _ _ L0.length R0.length z1.length z2.length a3 a4 L0 R0 z1 z2 X0.out.sides X1.out.items X2.out.ints
  rw [HRV.out] at C
  refine (C).mono ?_
  rintro e w22 ⟨gG0, cpG0, rfl, hoG0, hcpG0, hmk⟩
  have hsw22 := hmk.size
  replace A0 := A0.below hmk
  replace A1 := A1.below hmk
  replace A2 := A2.below hmk
  replace ka0 := cell_later hmk ka0
  replace ka1 := cell_later hmk ka1
  replace W0 := Lib.hid (W0.out.below hmk)
  replace X0 := Lib.hid (X0.out.below hmk)
  replace kx0 := cell_later hmk kx0
  replace kx1 := cell_later hmk kx1
  replace X1 := Lib.hid (X1.out.below hmk)
  replace X2 := Lib.hid (X2.out.below hmk)
  replace HB := Lib.hid (HB.out.trans (hmk.mono HB.out.size))
  have G0 := Lib.hid hoG0
  clear hoG0 hcpG0
  clear hmk
  clear C
  go_wp2_with fail
  refine (eqHitS_same _ _ _ _ _ _ _ cpG0 cpW0 rv G0.out.1 W0.out.1).mono ?_
  rintro e w23 ⟨rfl, hmk⟩
  have hsw23 := hmk.size
  replace A0 := A0.below hmk
  replace A1 := A1.below hmk
  replace A2 := A2.below hmk
  replace ka0 := cell_later hmk ka0
  replace ka1 := cell_later hmk ka1
  replace W0 := Lib.hid (W0.out.below hmk)
  replace X0 := Lib.hid (X0.out.below hmk)
  replace kx0 := cell_later hmk kx0
  replace kx1 := cell_later hmk kx1
  replace X1 := Lib.hid (X1.out.below hmk)
  replace X2 := Lib.hid (X2.out.below hmk)
  replace G0 := Lib.hid (G0.out.below hmk)
  replace HB := Lib.hid (HB.out.trans (hmk.mono HB.out.size))
  clear hmk
  go_wp2_with fail
  have hdd := (Below.refl w23.heap.size w23).drew
  have HTB := Lib.hid (toBook_any w23.drew _ _ _ _ cap0 cap0' L0 R0 (A0.below hdd) HL0.out.1 HL0.out.2)
  have KD := Lib.hid (show ∀ w', Below w23.heap.size w23 w' → w'.cell? ⟨w.heap.size, 0, none⟩ = some (.slice a0 L0.length cap0) ∧ w'.cell? ⟨w.heap.size, 1, none⟩ = some (.slice b0 R0.length cap0') ∧ w'.cell? ⟨vx, 0, none⟩ = some (.slice (some ⟨BLX0, 0, none⟩) L0.length L0.length) ∧ w'.cell? ⟨vx, 1, none⟩ = some (.slice (some ⟨BRX0, 0, none⟩) R0.length R0.length) from fun w' bl => ⟨cell_later bl ka0, cell_later bl ka1, cell_later bl kx0, cell_later bl kx1⟩)
  have HDD := Lib.hid hdd
  clear hdd
  go_region_held3 (fun w' => w'.cell? ⟨w.heap.size, 0, none⟩ = some (.slice a0 L0.length cap0) ∧ w'.cell? ⟨w.heap.size, 1, none⟩ = some (.slice b0 R0.length cap0') ∧ w'.cell? ⟨vx, 0, none⟩ = some (.slice (some ⟨BLX0, 0, none⟩) L0.length L0.length) ∧ w'.cell? ⟨vx, 1, none⟩ = some (.slice (some ⟨BRX0, 0, none⟩) R0.length R0.length))
    (first | go_keep | exact KD.out _ HDD.out | exact KD.out _ HW2.out | exact KD.out _ HW3.out)
    (first
      | (go_at_call 16; refine HTB.out.mono ?_; rintro e w25 ⟨BLY, BRY, blY, brY, rfl, hkY, hmk⟩; have HW2 := Lib.hid (HDD.out.trans hmk); have HY := Lib.hid hkY; clear hkY hmk)
      | (go_at_call 20; have hX := X0.out.below HW2.out; refine (eqBook_same w25 _ _ _ _ _ _ _ _ L0.length R0.length L0.length R0.length L0 R0 hX.sides HY.out.sides).mono ?_; rintro e w26 ⟨rfl, hmk⟩; have HW3 : Hid (Below w23.heap.size w23 w26) := Lib.hid (HW2.out.trans (hmk.mono HW2.out.size)); clear hmk hX))
  have hmk := HW3.out
  have hsw26 := hmk.size
  replace A0 := A0.below hmk
  replace A1 := A1.below hmk
  replace A2 := A2.below hmk
  replace ka0 := cell_later hmk ka0
  replace ka1 := cell_later hmk ka1
  replace W0 := Lib.hid (W0.out.below hmk)
  replace X0 := Lib.hid (X0.out.below hmk)
  replace kx0 := cell_later hmk kx0
  replace kx1 := cell_later hmk kx1
  replace X1 := Lib.hid (X1.out.below hmk)
  replace X2 := Lib.hid (X2.out.below hmk)
  replace G0 := Lib.hid (G0.out.below hmk)
  replace HB := Lib.hid (HB.out.trans (hmk.mono HB.out.size))
  clear hmk HTB KD HDD HW2 HW3 HY
  go_wp2_with fail
  refine (toItemS_any _ _ _ _ _ z1 A1 HL1.out).mono ?_
  rintro e w27 ⟨bsY1, rfl, hkY1, hmk⟩
  have hsw27 := hmk.size
  replace A0 := A0.below hmk
  replace A1 := A1.below hmk
  replace A2 := A2.below hmk
  replace ka0 := cell_later hmk ka0
  replace ka1 := cell_later hmk ka1
  replace W0 := Lib.hid (W0.out.below hmk)
  replace X0 := Lib.hid (X0.out.below hmk)
  replace kx0 := cell_later hmk kx0
  replace kx1 := cell_later hmk kx1
  replace X1 := Lib.hid (X1.out.below hmk)
  replace X2 := Lib.hid (X2.out.below hmk)
  replace G0 := Lib.hid (G0.out.below hmk)
  replace HB := Lib.hid (HB.out.trans (hmk.mono HB.out.size))
  have Y1 := Lib.hid hkY1
  clear hkY1
  clear hmk
  go_wp2_with fail
  refine (eqItemS_same _ _ _ _ _ _ _ _ _ z1 X1.out.items Y1.out.items).mono ?_
  rintro e w28 ⟨rfl, hmk⟩
  have hsw28 := hmk.size
  replace A0 := A0.below hmk
  replace A1 := A1.below hmk
  replace A2 := A2.below hmk
  replace ka0 := cell_later hmk ka0
  replace ka1 := cell_later hmk ka1
  replace W0 := Lib.hid (W0.out.below hmk)
  replace X0 := Lib.hid (X0.out.below hmk)
  replace kx0 := cell_later hmk kx0
  replace kx1 := cell_later hmk kx1
  replace X1 := Lib.hid (X1.out.below hmk)
  replace X2 := Lib.hid (X2.out.below hmk)
  replace G0 := Lib.hid (G0.out.below hmk)
  replace HB := Lib.hid (HB.out.trans (hmk.mono HB.out.size))
  clear hmk
  clear Y1
  go_wp2_with fail
  refine (toIntS_any _ _ _ _ _ z2 A2 hz2).mono ?_
  rintro e w29 ⟨rfl, hkY2, hmk⟩
  have hsw29 := hmk.size
  replace A0 := A0.below hmk
  replace A1 := A1.below hmk
  replace A2 := A2.below hmk
  replace ka0 := cell_later hmk ka0
  replace ka1 := cell_later hmk ka1
  replace W0 := Lib.hid (W0.out.below hmk)
  replace X0 := Lib.hid (X0.out.below hmk)
  replace kx0 := cell_later hmk kx0
  replace kx1 := cell_later hmk kx1
  replace X1 := Lib.hid (X1.out.below hmk)
  replace X2 := Lib.hid (X2.out.below hmk)
  replace G0 := Lib.hid (G0.out.below hmk)
  replace HB := Lib.hid (HB.out.trans (hmk.mono HB.out.size))
  have Y2 := Lib.hid (IntsIn.mk hkY2 A2 hz2)
  clear hkY2
  clear hmk
  go_wp2_with fail
  refine (eqIntS_any _ _ _ _ _ _ _ _ _ z2 z2 X2.out.ints Y2.out.ints).mono ?_
  rintro e w30 ⟨rfl, hmk⟩
  have hsw30 := size_drawn hmk
  replace A0 := A0.drawn hmk
  replace A1 := A1.drawn hmk
  replace A2 := A2.drawn hmk
  replace ka0 := hmk.cell ka0
  replace ka1 := hmk.cell ka1
  replace W0 := Lib.hid (W0.out.drawn hmk)
  replace X0 := Lib.hid (X0.out.drawn hmk)
  replace kx0 := hmk.cell kx0
  replace kx1 := hmk.cell kx1
  replace X1 := Lib.hid (X1.out.drawn hmk)
  replace X2 := Lib.hid (X2.out.drawn hmk)
  replace G0 := Lib.hid (G0.out.drawn hmk)
  replace HB := Lib.hid (HB.out.trans hmk.below)
  rw [eqL_self]
  clear hmk
  clear Y2
  have kk0 : (0 : Int) ≤ 1 := by omega
  have kk1 : (1 : Int) ≤ 1 := by omega
  go_wp2_with fail
  refine (markBook_any _ _ _ _ _ _ _ L0 R0 _ X0.out (by omega) (by omega) (by omega)).mono ?_
  rintro e w31 ⟨km0, rfl, hm0a, hm0b, hmk⟩
  have hsw31 := hmk.size
  clear X0
  replace A0 := A0.upd hmk (by omega)
  replace A1 := A1.upd hmk (by omega)
  replace A2 := A2.upd hmk (by omega)
  replace ka0 := hmk.cell ka0 (by dsimp only; omega)
  replace ka1 := hmk.cell ka1 (by dsimp only; omega)
  replace W0 := Lib.hid (W0.out.upd hmk (by omega))
  replace kx0 := hmk.cell kx0 (by dsimp only; omega)
  replace kx1 := hmk.cell kx1 (by dsimp only; omega)
  replace X1 := Lib.hid (X1.out.upd hmk (by omega))
  replace X2 := Lib.hid (X2.out.upd hmk (by omega))
  replace G0 := Lib.hid (G0.out.upd hmk (by omega))
  replace HB := Lib.hid (HB.out.trans (hmk.low (by omega) (by omega)))
  clear hmk
  go_wp2_with fail
  refine (markItemS_any _ _ _ _ _ z1 _ X1.out (by omega) (by omega)).mono ?_
  rintro e w32 ⟨km1, rfl, hm1a, hm1b, hmk, -⟩
  have hsw32 := hmk.size
  clear X1
  replace A0 := A0.upd hmk (by omega)
  replace A1 := A1.upd hmk (by omega)
  replace A2 := A2.upd hmk (by omega)
  replace ka0 := hmk.cell ka0 (by dsimp only; omega)
  replace ka1 := hmk.cell ka1 (by dsimp only; omega)
  replace W0 := Lib.hid (W0.out.upd hmk (by omega))
  replace kx0 := hmk.cell kx0 (by dsimp only; omega)
  replace kx1 := hmk.cell kx1 (by dsimp only; omega)
  replace X2 := Lib.hid (X2.out.upd hmk (by omega))
  replace G0 := Lib.hid (G0.out.upd hmk (by omega))
  replace HB := Lib.hid (HB.out.trans (hmk.low (by omega) (by omega)))
  clear hmk
  go_wp2_with fail
  refine (markIntS_any _ _ _ _ _ z2 _ X2.out.tight X2.out.blk (by have := X2.out.2.2.2.2; omega) (by omega) (by omega)).mono ?_
  rintro e w33 ⟨rfl, -, -, hmk, -⟩
  have hsw33 := hmk.size
  clear X2
  replace A0 := A0.upd hmk (by omega)
  replace A1 := A1.upd hmk (by omega)
  replace A2 := A2.upd hmk (by omega)
  replace ka0 := hmk.cell ka0 (by dsimp only; omega)
  replace ka1 := hmk.cell ka1 (by dsimp only; omega)
  replace W0 := Lib.hid (W0.out.upd hmk (by omega))
  replace kx0 := hmk.cell kx0 (by dsimp only; omega)
  replace kx1 := hmk.cell kx1 (by dsimp only; omega)
  replace G0 := Lib.hid (G0.out.upd hmk (by omega))
  replace HB := Lib.hid (HB.out.trans (hmk.low (by omega) (by omega)))
  clear hmk
  have hlz2 : (0 : Int) ≤ (z2.length : Int) := by omega
  go_wp2_with fail
  refine (eqHitS_same _ _ _ _ _ _ _ cpG0 cpW0 rv G0.out.1 W0.out.1).mono ?_
  rintro e w34 ⟨rfl, hmk⟩
  have hsw34 := hmk.size
  replace A0 := A0.below hmk
  replace A1 := A1.below hmk
  replace A2 := A2.below hmk
  replace ka0 := cell_later hmk ka0
  replace ka1 := cell_later hmk ka1
  replace W0 := Lib.hid (W0.out.below hmk)
  replace kx0 := cell_later hmk kx0
  replace kx1 := cell_later hmk kx1
  replace G0 := Lib.hid (G0.out.below hmk)
  replace HB := Lib.hid (HB.out.trans (hmk.mono HB.out.size))
  clear hmk
  go_wp2_with fail
  refine (markHitS_any _ _ _ _ cpG0 rv 1 G0.out HOK.out (by omega) (by omega)).mono ?_
  rintro e w35 ⟨rfl, hg1, hmk, -⟩
  have hsw35 := hmk.size
  have GM := Lib.hid hg1
  clear hg1 G0
  replace A0 := A0.upd hmk (by omega)
  replace A1 := A1.upd hmk (by omega)
  replace A2 := A2.upd hmk (by omega)
  replace ka0 := hmk.cell ka0 (by dsimp only; omega)
  replace ka1 := hmk.cell ka1 (by dsimp only; omega)
  replace W0 := Lib.hid (W0.out.upd hmk (by omega))
  replace kx0 := hmk.cell kx0 (by dsimp only; omega)
  replace kx1 := hmk.cell kx1 (by dsimp only; omega)
  replace HB := Lib.hid (HB.out.trans (hmk.low (by omega) (by omega)))
  clear hmk
  have GMI : Hid (HitsO w35 _ _ gG0 (upH 1 rv.length)) := GM
  clear GM
  go_wp2_with fail
  refine (heldHitS_any _ _ _ _ _ rv.length 1 GMI.out.1 (by omega) (by omega) (by omega)).mono ?_
  rintro e w36 ⟨rfl, rfl⟩
  go_wp2_with fail
  refine (toBook_any _ _ _ _ _ _ _ L0 R0 A0 HL0.out.1 HL0.out.2).mono ?_
  rintro e w37 ⟨BLS0, BRS0, blS0, brS0, rfl, hkS0, hmk⟩
  have hsw37 := hmk.size
  replace A0 := A0.below hmk
  replace A1 := A1.below hmk
  replace A2 := A2.below hmk
  replace ka0 := cell_later hmk ka0
  replace ka1 := cell_later hmk ka1
  replace W0 := Lib.hid (W0.out.below hmk)
  replace kx0 := cell_later hmk kx0
  replace kx1 := cell_later hmk kx1
  replace GMI := Lib.hid (GMI.out.below hmk)
  replace HB := Lib.hid (HB.out.trans (hmk.mono HB.out.size))
  have S0 := Lib.hid hkS0
  clear hkS0
  clear hmk
  go_wp2_with fail
  refine (toItemS_any _ _ _ _ _ z1 A1 HL1.out).mono ?_
  rintro e w38 ⟨bsS1, rfl, hkS1, hmk⟩
  have hsw38 := hmk.size
  replace A0 := A0.below hmk
  replace A1 := A1.below hmk
  replace A2 := A2.below hmk
  replace ka0 := cell_later hmk ka0
  replace ka1 := cell_later hmk ka1
  replace W0 := Lib.hid (W0.out.below hmk)
  replace kx0 := cell_later hmk kx0
  replace kx1 := cell_later hmk kx1
  replace GMI := Lib.hid (GMI.out.below hmk)
  replace S0 := Lib.hid (S0.out.below hmk)
  replace HB := Lib.hid (HB.out.trans (hmk.mono HB.out.size))
  have S1 := Lib.hid hkS1
  clear hkS1
  clear hmk
  go_wp2_with fail
  refine (toIntS_any _ _ _ _ _ z2 A2 hz2).mono ?_
  rintro e w39 ⟨rfl, hkS2, hmk⟩
  have hsw39 := hmk.size
  replace A0 := A0.below hmk
  replace A1 := A1.below hmk
  replace A2 := A2.below hmk
  replace ka0 := cell_later hmk ka0
  replace ka1 := cell_later hmk ka1
  replace W0 := Lib.hid (W0.out.below hmk)
  replace kx0 := cell_later hmk kx0
  replace kx1 := cell_later hmk kx1
  replace GMI := Lib.hid (GMI.out.below hmk)
  replace S0 := Lib.hid (S0.out.below hmk)
  replace S1 := Lib.hid (S1.out.below hmk)
  replace HB := Lib.hid (HB.out.trans (hmk.mono HB.out.size))
  have S2 := Lib.hid (IntsIn.mk hkS2 A2 hz2)
  clear hkS2
  clear hmk
  go_wp2_with fail
  have C := implRK _ _ _ _ _ _ _ _ _ _ _ L0.length R0.length z1.length z2.length a3 a4 L0 R0 z1 z2 S0.out.sides S1.out.items S2.out.ints
  rw [HRV.out] at C
  refine (C).mono ?_
  rintro e w40 ⟨gH0, cpH0, rfl, hoH0, hcpH0, hmk⟩
  have hsw40 := hmk.size
  replace A0 := A0.below hmk
  replace A1 := A1.below hmk
  replace A2 := A2.below hmk
  replace ka0 := cell_later hmk ka0
  replace ka1 := cell_later hmk ka1
  replace W0 := Lib.hid (W0.out.below hmk)
  replace kx0 := cell_later hmk kx0
  replace kx1 := cell_later hmk kx1
  replace GMI := Lib.hid (GMI.out.below hmk)
  replace S0 := Lib.hid (S0.out.below hmk)
  replace S1 := Lib.hid (S1.out.below hmk)
  replace S2 := Lib.hid (S2.out.below hmk)
  replace HB := Lib.hid (HB.out.trans (hmk.mono HB.out.size))
  have H0 := Lib.hid hoH0
  clear hoH0 hcpH0
  clear hmk
  clear C
  clear S0
  clear S1
  clear S2
  go_wp2_with fail
  refine (eqHitS_same _ _ _ _ _ _ _ cpH0 cpW0 rv H0.out.1 W0.out.1).mono ?_
  rintro e w41 ⟨rfl, hmk⟩
  have hsw41 := hmk.size
  replace A0 := A0.below hmk
  replace A1 := A1.below hmk
  replace A2 := A2.below hmk
  replace ka0 := cell_later hmk ka0
  replace ka1 := cell_later hmk ka1
  replace W0 := Lib.hid (W0.out.below hmk)
  replace kx0 := cell_later hmk kx0
  replace kx1 := cell_later hmk kx1
  replace GMI := Lib.hid (GMI.out.below hmk)
  replace H0 := Lib.hid (H0.out.below hmk)
  replace HB := Lib.hid (HB.out.trans (hmk.mono HB.out.size))
  clear hmk
  go_wp2_with fail
  refine (heldHitS_any _ _ _ _ _ rv.length 1 GMI.out.1 (by omega) (by omega) (by omega)).mono ?_
  rintro e w42 ⟨rfl, rfl⟩
  go_wp2_with fail
  go_ret
  exact ⟨rfl, HB.out⟩
theorem own : ownKnob Try.prog.godebug = none := by kernel_rfl
theorem laidOut : laidOutB Try.prog = true := by kernel_rfl

set_option maxRecDepth 100000 in
theorem lifted (os : Os) (started : os.Started) (H : Type) (enc : TypeId × Value → H) :
    ReturnsInHanded {} Try.checked os 6 .any (Rows.fnExactRerankNearestSpec.pre6 enc Try.prog Try.f6 Rows.fnExactRerankNearestRow.domain false) (Rows.fnExactRerankNearestSpec.post enc Try.prog Try.f6 false true false false) := by
  refine returnsInHanded_of_change (C := Try.checked) own started (by kernel_rfl) Try.func6
    (ChangeSpec.witness6 (enc := enc) (C := Try.checked) false ⟨#[], #[.agg #[.slice none 0 0, .slice none 0 0], .slice none 0 0, .slice none 0 0, .int .i64 0, .int .i64 0], []⟩ 8 (by kernel_rfl) (by kernel_rfl) (by kernel_rfl) (by kernel_rfl)) ?_
  intro W base args ds gs before hval0 hW hcnd _
  have hval : ∀ (j : Nat) t v, Try.f6.params[j]? = some t → args[j]? = some v → Value.okWide Try.prog W .any base t v := hval0
  have hW' := hW
  obtain ⟨p, q, hA0, hV, rfl, hfz, hnd⟩ := hW
  have hA : DataW.TrodAll enc Try.prog W 0 (fun _ => true) true Try.f6.params.toList args.toList ds p := hA0
  rw [Try.params6] at hA hval
  obtain ⟨v0, vs0, d0, ds0, p0, q0, hargs, rfl, rfl, h0, r0⟩ := trodAll_cons hA
  obtain ⟨v1, vs1, d1, ds1, p1, q1, rfl, rfl, rfl, h1, r1⟩ := trodAll_cons r0
  obtain ⟨v2, vs2, d2, ds2, p2, q2, rfl, rfl, rfl, h2, r2⟩ := trodAll_cons r1
  obtain ⟨v3, vs3, d3, ds3, p3, q3, rfl, rfl, rfl, h3, r3⟩ := trodAll_cons r2
  obtain ⟨v4, vs4, d4, ds4, p4, q4, rfl, rfl, rfl, h4, r4⟩ := trodAll_cons r3
  obtain ⟨rfl, rfl, rfl⟩ := trodAll_nil r4
  obtain rfl : args = #[v0, v1, v2, v3, v4] := by cases args; simp_all
  obtain ⟨rfl, rfl⟩ := trodVars_none hV
  have k0 := h0
  have lt0 : ∀ x ∈ p0, x.block < W.heap.size := by obtain ⟨m, hm⟩ := k0; exact DataW.trod_lt m _ _ _ hm
  obtain ⟨a0, b0, cap0, cap0', L0, R0, hv0, w0⟩ := book_of_trod (hval 0 39 v0 rfl rfl) h0
  subst hv0
  obtain ⟨a1, len1, cap1, rfl⟩ := okWide_slice Try.underlying40 (hval 1 40 v1 rfl rfl)
  have k1 := h1
  have lt1 : ∀ x ∈ p1, x.block < W.heap.size := by obtain ⟨m, hm⟩ := k1; exact DataW.trod_lt m _ _ _ hm
  obtain ⟨fuel1, hf1⟩ := h1
  obtain ⟨z1, hz1, w1⟩ := items_of_trod hf1
  subst hz1
  obtain ⟨a2, len2, cap2, rfl⟩ := okWide_slice Try.underlying27 (hval 2 27 v2 rfl rfl)
  have k2 := h2
  have lt2 : ∀ x ∈ p2, x.block < W.heap.size := by obtain ⟨m, hm⟩ := k2; exact DataW.trod_lt m _ _ _ hm
  obtain ⟨fuel2, hf2⟩ := h2
  obtain ⟨z2, hz2, w2⟩ := ints_of_trod hf2
  subst hz2
  obtain ⟨a3, rfl, rfl, rfl, w3⟩ := open_int Try.underlying3 (hval 3 3 v3 rfl rfl) h3
  obtain ⟨a4, rfl, rfl, rfl, w4⟩ := open_int Try.underlying3 (hval 4 3 v4 rfl rfl) h4
  clear hA0 hval0
  refine (walk a0 b0 cap0 cap0' L0 R0 a1 cap1 z1 a2 cap2 z2 a3 a4 W w0 w1 w2 w3 w4).mono fun e W' ⟨he, bel⟩ => ?_
  subst he
  exact ⟨_, rfl, _, _, _, [], _, [], hW', trodAll_mk1 (shut_bool Try.underlying4 _), (trodAll_cons_mk (Below.trod laidOut (by kernel_rfl) (of_decide_eq_true (by kernel_rfl)) k0 bel lt0) (trodAll_cons_mk (Below.trod laidOut (by kernel_rfl) (of_decide_eq_true (by kernel_rfl)) k1 bel lt1) (trodAll_cons_mk (Below.trod laidOut (by kernel_rfl) (of_decide_eq_true (by kernel_rfl)) k2 bel lt2) (trodAll_cons_mk (shut_int Try.underlying3 w3) (trodAll_cons_mk (shut_int Try.underlying3 w4) trodAll_mk0))))), rfl, bel.frame _, fun h => by cases h⟩

theorem over : Rows.fnExactRerankNearestRow.holds Try.pinned (OpenSpec.ofChange Rows.fnExactRerankNearestSpec) :=
  OpenClaim.holds_of_wide 6 Try.f6 rfl rfl rfl rfl rfl rfl rfl ⟨rfl, rfl, rfl, rfl, rfl⟩ rfl rfl rfl rfl rfl (by kernel_rfl) Try.func6 (by kernel_rfl)
    (of_decide_eq_true (by kernel_rfl)) (by unfold Func.isWrapper; first | (rw [if_pos (by decide +kernel)]; kernel_rfl) | (rw [if_neg (by decide +kernel)]; exact ⟨rfl, rfl⟩))
    (fun os started H enc _ => lifted os started H enc)

/-- THE STATEMENT -/
theorem proved : Rows.FnExactRerankNearestSaid :=
  over
#print axioms proved
end Go.Proofs.Ytllahaebfhaobaa.fnExactRerankNearest
