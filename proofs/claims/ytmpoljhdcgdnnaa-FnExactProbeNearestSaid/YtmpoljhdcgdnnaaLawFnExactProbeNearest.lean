/-
  For all arguments ProbeNearest of the program returns what the reference returns, and leaves its arguments as they were; the result shares no memory with them. No condition.
-/
import Derived.Test.YtmpoljhdcgdnnaaRows
import Derived.Test.YtmpoljhdcgdnnaaCostSpec
import Derived.Test.YtmpoljhdcgdnnaaItemExact
import Derived.Test.YtmpoljhdcgdnnaaHitMark
import Derived.Test.YtmpoljhdcgdnnaaArgs
import Derived.Test.YtmpoljhdcgdnnaaArgsItems
import Derived.ProofKit
import Derived.OpenShut
import Derived.ShutString
import Derived.ChangeOld
namespace Go.Proofs.Ytmpoljhdcgdnnaa.fnExactProbeNearest
open Go.ChangeShapes Go.WideShapes Go.ChangeAt Go.RowKit
set_option linter.unusedVariables false

set_option maxHeartbeats 4000000 in
theorem walk (a0 : Option Addr) (cap0 : Nat) (z0 : List (List Int)) (a1 : Option Addr) (cap1 : Nat) (z1 : List It) (a2 : Option Addr) (cap2 : Nat) (z2 : List Int) (a3 : Int) (a4 : Int) (w : World) (w0 : Lists w 0 w.heap.size a0 z0 ∧ Cap z0.length cap0) (w1 : Items w 0 w.heap.size a1 z1 ∧ Cap z1.length cap1) (w2 : Ints w 0 w.heap.size a2 z2 ∧ Cap z2.length cap2) (w3 : (Lit.int .i64 a3).wf = true) (w4 : (Lit.int .i64 a4).wf = true) :
    Calls Try.prog 5 #[.slice a0 z0.length cap0, .slice a1 z1.length cap1, .slice a2 z2.length cap2, .int .i64 a3, .int .i64 a4] w fun e w' => e = .returned (.bool true) ∧ Below w.heap.size w w' := by
  have HB : Hid (Below w.heap.size w w) := Lib.hid (Below.refl _ _)
  obtain ⟨A0, -⟩ := w0
  have hlen0 := A0.len
  obtain ⟨A1, -⟩ := w1
  have hlen1 := A1.len
  obtain ⟨A2, -⟩ := w2
  have hlen2 := A2.len
  have hWW : w.heap.size ≤ w.heap.size := Nat.le_refl _
  by_cases hbig2 : 1048576 < z2.length
  · have hbi2 : (1048576 : Int) < z2.length := by omega
    go_enter Try.func5, Try.ntmps5
    go_wp2_with fail
    go_ret
    exact ⟨rfl, HB.out⟩
  have hz2 : z2.length ≤ 1048576 := by omega
  have hbj2 : decide ((1048576 : Int) < (z2.length : Int)) = false := decide_eq_false (by omega)
  go_enter Try.func5, Try.ntmps5
  have r0 : (0 : Int) ≤ 1048576 := by omega
  have rr : (1048576 : Int) ≤ 1048576 := by omega
  go_wp2_with fail
  refine (szIntSS_any _ _ _ _ _ z0 _ A0 r0 rr).mono ?_
  rintro e w12 ⟨lf0, rfl, hlf0, rfl⟩
  rcases hlf0 with rfl | ⟨p0, q0, hLL0⟩
  · go_wp2_with fail
    go_ret
    exact ⟨rfl, HB.out⟩
  have qq0 : lf0 ≤ 1048576 := by omega
  have HL0 := Lib.hid (hLL0.mono rr)
  clear hLL0
  go_wp2_with fail
  refine (szItemS_any _ _ _ _ _ z1 _ A1 p0 qq0).mono ?_
  rintro e w13 ⟨lf1, rfl, hlf1, hmk⟩
  have hsw13 := hmk.size
  replace A0 := A0.below hmk
  replace A1 := A1.below hmk
  replace A2 := A2.below hmk
  replace HB := Lib.hid (HB.out.trans (hmk.mono HB.out.size))
  clear hmk
  rcases hlf1 with rfl | ⟨p1, q1, hLL1⟩
  · go_wp2_with fail
    go_ret
    exact ⟨rfl, HB.out⟩
  have qq1 : lf1 ≤ 1048576 := by omega
  have HL1 := Lib.hid (hLL1.mono qq0)
  clear hLL1
  obtain ⟨rv, hrv⟩ : ∃ rv, pnV z0 z1 z2 a3 a4 = rv := ⟨_, rfl⟩
  have HRV := Lib.hid hrv
  clear hrv
  have HOK : Hid (rv.length ≤ 1048576) := Lib.hid (by rw [← HRV.out]; exact pnV_len z0 z1 z2 a3 a4)
  have hrl : rv.length ≤ 1048576 := HOK.out
  have hpos : ¬ ((1 : Int) + 2 * (rv.length : Int) < 0) := by omega
  go_wp2_with fail
  refine (toIntSS_any _ _ _ _ _ z0 A0 HL0.out).mono ?_
  rintro e w14 ⟨bsT0, rfl, hkT0, hmk⟩
  have hsw14 := hmk.size
  replace A0 := A0.below hmk
  replace A1 := A1.below hmk
  replace A2 := A2.below hmk
  replace HB := Lib.hid (HB.out.trans (hmk.mono HB.out.size))
  have T0 := Lib.hid (SSIn.of_at hkT0)
  clear hkT0
  clear hmk
  go_wp2_with fail
  refine (toItemS_any _ _ _ _ _ z1 A1 HL1.out).mono ?_
  rintro e w15 ⟨bsT1, rfl, hkT1, hmk⟩
  have hsw15 := hmk.size
  replace A0 := A0.below hmk
  replace A1 := A1.below hmk
  replace A2 := A2.below hmk
  replace T0 := Lib.hid (T0.out.below hmk)
  replace HB := Lib.hid (HB.out.trans (hmk.mono HB.out.size))
  have T1 := Lib.hid hkT1
  clear hkT1
  clear hmk
  go_wp2_with fail
  refine (toIntS_any _ _ _ _ _ z2 A2 hz2).mono ?_
  rintro e w16 ⟨rfl, hkT2, hmk⟩
  have hsw16 := hmk.size
  replace A0 := A0.below hmk
  replace A1 := A1.below hmk
  replace A2 := A2.below hmk
  replace T0 := Lib.hid (T0.out.below hmk)
  replace T1 := Lib.hid (T1.out.below hmk)
  replace HB := Lib.hid (HB.out.trans (hmk.mono HB.out.size))
  have T2 := Lib.hid (IntsIn.mk hkT2 A2 hz2)
  clear hkT2
  clear hmk
  go_wp2_with fail
  have C := specPN _ _ _ _ _ _ _ _ _ _ z0.length z1.length z2.length a3 a4 z0 z1 z2 T0.out.lists T1.out.items T2.out.ints
  rw [HRV.out] at C
  refine (C).mono ?_
  rintro e w17 ⟨gW0, cpW0, rfl, hoW0, hcpW0, hmk⟩
  have hsw17 := hmk.size
  replace A0 := A0.below hmk
  replace A1 := A1.below hmk
  replace A2 := A2.below hmk
  replace T0 := Lib.hid (T0.out.below hmk)
  replace T1 := Lib.hid (T1.out.below hmk)
  replace T2 := Lib.hid (T2.out.below hmk)
  replace HB := Lib.hid (HB.out.trans (hmk.mono HB.out.size))
  have W0 := Lib.hid hoW0
  clear hoW0 hcpW0
  clear hmk
  clear C
  clear T0
  clear T1
  clear T2
  go_wp2_with fail
  refine (toIntSS_any _ _ _ _ _ z0 A0 HL0.out).mono ?_
  rintro e w18 ⟨bsX0, rfl, hkX0, hmk⟩
  have hsw18 := hmk.size
  replace A0 := A0.below hmk
  replace A1 := A1.below hmk
  replace A2 := A2.below hmk
  replace W0 := Lib.hid (W0.out.below hmk)
  replace HB := Lib.hid (HB.out.trans (hmk.mono HB.out.size))
  have X0 := Lib.hid (SSIn.of_at hkX0)
  clear hkX0
  clear hmk
  go_wp2_with fail
  refine (toItemS_any _ _ _ _ _ z1 A1 HL1.out).mono ?_
  rintro e w19 ⟨bsX1, rfl, hkX1, hmk⟩
  have hsw19 := hmk.size
  replace A0 := A0.below hmk
  replace A1 := A1.below hmk
  replace A2 := A2.below hmk
  replace W0 := Lib.hid (W0.out.below hmk)
  replace X0 := Lib.hid (X0.out.below hmk)
  replace HB := Lib.hid (HB.out.trans (hmk.mono HB.out.size))
  have X1 := Lib.hid hkX1
  clear hkX1
  clear hmk
  go_wp2_with fail
  refine (toIntS_any _ _ _ _ _ z2 A2 hz2).mono ?_
  rintro e w20 ⟨rfl, hkX2, hmk⟩
  have hsw20 := hmk.size
  replace A0 := A0.below hmk
  replace A1 := A1.below hmk
  replace A2 := A2.below hmk
  replace W0 := Lib.hid (W0.out.below hmk)
  replace X0 := Lib.hid (X0.out.below hmk)
  replace X1 := Lib.hid (X1.out.below hmk)
  replace HB := Lib.hid (HB.out.trans (hmk.mono HB.out.size))
  have X2 := Lib.hid (IntsIn.mk hkX2 A2 hz2)
  clear hkX2
  clear hmk
  go_wp2_with fail
  have C := implPN _ _ _ _ _ _ _ _ _ _ z0.length z1.length z2.length a3 a4 z0 z1 z2 X0.out.lists X1.out.items X2.out.ints
  rw [HRV.out] at C
  refine (C).mono ?_
  rintro e w21 ⟨gG0, cpG0, rfl, hoG0, hcpG0, hmk⟩
  have hsw21 := hmk.size
  replace A0 := A0.below hmk
  replace A1 := A1.below hmk
  replace A2 := A2.below hmk
  replace W0 := Lib.hid (W0.out.below hmk)
  replace X0 := Lib.hid (X0.out.below hmk)
  replace X1 := Lib.hid (X1.out.below hmk)
  replace X2 := Lib.hid (X2.out.below hmk)
  replace HB := Lib.hid (HB.out.trans (hmk.mono HB.out.size))
  have G0 := Lib.hid hoG0
  clear hoG0 hcpG0
  clear hmk
  clear C
  go_wp2_with fail
  refine (eqHitS_same _ _ _ _ _ _ _ cpG0 cpW0 rv G0.out.1 W0.out.1).mono ?_
  rintro e w22 ⟨rfl, hmk⟩
  have hsw22 := hmk.size
  replace A0 := A0.below hmk
  replace A1 := A1.below hmk
  replace A2 := A2.below hmk
  replace W0 := Lib.hid (W0.out.below hmk)
  replace X0 := Lib.hid (X0.out.below hmk)
  replace X1 := Lib.hid (X1.out.below hmk)
  replace X2 := Lib.hid (X2.out.below hmk)
  replace G0 := Lib.hid (G0.out.below hmk)
  replace HB := Lib.hid (HB.out.trans (hmk.mono HB.out.size))
  clear hmk
  go_wp2_with fail
  refine (toIntSS_any _ _ _ _ _ z0 A0 HL0.out).mono ?_
  rintro e w23 ⟨bsY0, rfl, hkY0, hmk⟩
  have hsw23 := hmk.size
  replace A0 := A0.below hmk
  replace A1 := A1.below hmk
  replace A2 := A2.below hmk
  replace W0 := Lib.hid (W0.out.below hmk)
  replace X0 := Lib.hid (X0.out.below hmk)
  replace X1 := Lib.hid (X1.out.below hmk)
  replace X2 := Lib.hid (X2.out.below hmk)
  replace G0 := Lib.hid (G0.out.below hmk)
  replace HB := Lib.hid (HB.out.trans (hmk.mono HB.out.size))
  have Y0 := Lib.hid (SSIn.of_at hkY0)
  clear hkY0
  clear hmk
  go_wp2_with fail
  refine (eqIntSS_any _ _ _ _ _ _ _ _ _ z0 z0 X0.out.lists Y0.out.lists).mono ?_
  rintro e w24 ⟨rfl, hmk⟩
  have hsw24 := size_drawn hmk
  replace A0 := A0.drawn hmk
  replace A1 := A1.drawn hmk
  replace A2 := A2.drawn hmk
  replace W0 := Lib.hid (W0.out.drawn hmk)
  replace X0 := Lib.hid (X0.out.drawn hmk)
  replace X1 := Lib.hid (X1.out.drawn hmk)
  replace X2 := Lib.hid (X2.out.drawn hmk)
  replace G0 := Lib.hid (G0.out.drawn hmk)
  replace HB := Lib.hid (HB.out.trans hmk.below)
  rw [eqLL_self]
  clear hmk
  clear Y0
  go_wp2_with fail
  refine (toItemS_any _ _ _ _ _ z1 A1 HL1.out).mono ?_
  rintro e w25 ⟨bsY1, rfl, hkY1, hmk⟩
  have hsw25 := hmk.size
  replace A0 := A0.below hmk
  replace A1 := A1.below hmk
  replace A2 := A2.below hmk
  replace W0 := Lib.hid (W0.out.below hmk)
  replace X0 := Lib.hid (X0.out.below hmk)
  replace X1 := Lib.hid (X1.out.below hmk)
  replace X2 := Lib.hid (X2.out.below hmk)
  replace G0 := Lib.hid (G0.out.below hmk)
  replace HB := Lib.hid (HB.out.trans (hmk.mono HB.out.size))
  have Y1 := Lib.hid hkY1
  clear hkY1
  clear hmk
  go_wp2_with fail
  refine (eqItemS_same _ _ _ _ _ _ _ _ _ z1 X1.out.items Y1.out.items).mono ?_
  rintro e w26 ⟨rfl, hmk⟩
  have hsw26 := hmk.size
  replace A0 := A0.below hmk
  replace A1 := A1.below hmk
  replace A2 := A2.below hmk
  replace W0 := Lib.hid (W0.out.below hmk)
  replace X0 := Lib.hid (X0.out.below hmk)
  replace X1 := Lib.hid (X1.out.below hmk)
  replace X2 := Lib.hid (X2.out.below hmk)
  replace G0 := Lib.hid (G0.out.below hmk)
  replace HB := Lib.hid (HB.out.trans (hmk.mono HB.out.size))
  clear hmk
  clear Y1
  go_wp2_with fail
  refine (toIntS_any _ _ _ _ _ z2 A2 hz2).mono ?_
  rintro e w27 ⟨rfl, hkY2, hmk⟩
  have hsw27 := hmk.size
  replace A0 := A0.below hmk
  replace A1 := A1.below hmk
  replace A2 := A2.below hmk
  replace W0 := Lib.hid (W0.out.below hmk)
  replace X0 := Lib.hid (X0.out.below hmk)
  replace X1 := Lib.hid (X1.out.below hmk)
  replace X2 := Lib.hid (X2.out.below hmk)
  replace G0 := Lib.hid (G0.out.below hmk)
  replace HB := Lib.hid (HB.out.trans (hmk.mono HB.out.size))
  have Y2 := Lib.hid (IntsIn.mk hkY2 A2 hz2)
  clear hkY2
  clear hmk
  go_wp2_with fail
  refine (eqIntS_any _ _ _ _ _ _ _ _ _ z2 z2 X2.out.ints Y2.out.ints).mono ?_
  rintro e w28 ⟨rfl, hmk⟩
  have hsw28 := size_drawn hmk
  replace A0 := A0.drawn hmk
  replace A1 := A1.drawn hmk
  replace A2 := A2.drawn hmk
  replace W0 := Lib.hid (W0.out.drawn hmk)
  replace X0 := Lib.hid (X0.out.drawn hmk)
  replace X1 := Lib.hid (X1.out.drawn hmk)
  replace X2 := Lib.hid (X2.out.drawn hmk)
  replace G0 := Lib.hid (G0.out.drawn hmk)
  replace HB := Lib.hid (HB.out.trans hmk.below)
  rw [eqL_self]
  clear hmk
  clear Y2
  have kk0 : (0 : Int) ≤ 1 := by omega
  have kk1 : (1 : Int) ≤ 1 := by omega
  go_wp2_with fail
  refine (markIntSS_any _ _ _ _ _ z0 _ X0.out (by omega) (by omega)).mono ?_
  rintro e w29 ⟨km0, rfl, hm0a, hm0b, hmk, -⟩
  have hsw29 := hmk.size
  clear X0
  replace A0 := A0.upd hmk (by omega)
  replace A1 := A1.upd hmk (by omega)
  replace A2 := A2.upd hmk (by omega)
  replace W0 := Lib.hid (W0.out.upd hmk (by omega))
  replace X1 := Lib.hid (X1.out.upd hmk (by omega))
  replace X2 := Lib.hid (X2.out.upd hmk (by omega))
  replace G0 := Lib.hid (G0.out.upd hmk (by omega))
  replace HB := Lib.hid (HB.out.trans (hmk.low (by omega) (by omega)))
  clear hmk
  go_wp2_with fail
  refine (markItemS_any _ _ _ _ _ z1 _ X1.out (by omega) (by omega)).mono ?_
  rintro e w30 ⟨km1, rfl, hm1a, hm1b, hmk, -⟩
  have hsw30 := hmk.size
  clear X1
  replace A0 := A0.upd hmk (by omega)
  replace A1 := A1.upd hmk (by omega)
  replace A2 := A2.upd hmk (by omega)
  replace W0 := Lib.hid (W0.out.upd hmk (by omega))
  replace X2 := Lib.hid (X2.out.upd hmk (by omega))
  replace G0 := Lib.hid (G0.out.upd hmk (by omega))
  replace HB := Lib.hid (HB.out.trans (hmk.low (by omega) (by omega)))
  clear hmk
  go_wp2_with fail
  refine (markIntS_any _ _ _ _ _ z2 _ X2.out.tight X2.out.blk (by have := X2.out.2.2.2.2; omega) (by omega) (by omega)).mono ?_
  rintro e w31 ⟨rfl, -, -, hmk, -⟩
  have hsw31 := hmk.size
  clear X2
  replace A0 := A0.upd hmk (by omega)
  replace A1 := A1.upd hmk (by omega)
  replace A2 := A2.upd hmk (by omega)
  replace W0 := Lib.hid (W0.out.upd hmk (by omega))
  replace G0 := Lib.hid (G0.out.upd hmk (by omega))
  replace HB := Lib.hid (HB.out.trans (hmk.low (by omega) (by omega)))
  clear hmk
  have hlz2 : (0 : Int) ≤ (z2.length : Int) := by omega
  go_wp2_with fail
  refine (eqHitS_same _ _ _ _ _ _ _ cpG0 cpW0 rv G0.out.1 W0.out.1).mono ?_
  rintro e w32 ⟨rfl, hmk⟩
  have hsw32 := hmk.size
  replace A0 := A0.below hmk
  replace A1 := A1.below hmk
  replace A2 := A2.below hmk
  replace W0 := Lib.hid (W0.out.below hmk)
  replace G0 := Lib.hid (G0.out.below hmk)
  replace HB := Lib.hid (HB.out.trans (hmk.mono HB.out.size))
  clear hmk
  go_wp2_with fail
  refine (markHitS_any _ _ _ _ cpG0 rv 1 G0.out HOK.out (by omega) (by omega)).mono ?_
  rintro e w33 ⟨rfl, hg1, hmk, -⟩
  have hsw33 := hmk.size
  have GM := Lib.hid hg1
  clear hg1 G0
  replace A0 := A0.upd hmk (by omega)
  replace A1 := A1.upd hmk (by omega)
  replace A2 := A2.upd hmk (by omega)
  replace W0 := Lib.hid (W0.out.upd hmk (by omega))
  replace HB := Lib.hid (HB.out.trans (hmk.low (by omega) (by omega)))
  clear hmk
  have GMI : Hid (HitsO w33 _ _ gG0 (upH 1 rv.length)) := GM
  clear GM
  go_wp2_with fail
  refine (heldHitS_any _ _ _ _ _ rv.length 1 GMI.out.1 (by omega) (by omega) (by omega)).mono ?_
  rintro e w34 ⟨rfl, rfl⟩
  go_wp2_with fail
  refine (toIntSS_any _ _ _ _ _ z0 A0 HL0.out).mono ?_
  rintro e w35 ⟨bsS0, rfl, hkS0, hmk⟩
  have hsw35 := hmk.size
  replace A0 := A0.below hmk
  replace A1 := A1.below hmk
  replace A2 := A2.below hmk
  replace W0 := Lib.hid (W0.out.below hmk)
  replace GMI := Lib.hid (GMI.out.below hmk)
  replace HB := Lib.hid (HB.out.trans (hmk.mono HB.out.size))
  have S0 := Lib.hid (SSIn.of_at hkS0)
  clear hkS0
  clear hmk
  go_wp2_with fail
  refine (toItemS_any _ _ _ _ _ z1 A1 HL1.out).mono ?_
  rintro e w36 ⟨bsS1, rfl, hkS1, hmk⟩
  have hsw36 := hmk.size
  replace A0 := A0.below hmk
  replace A1 := A1.below hmk
  replace A2 := A2.below hmk
  replace W0 := Lib.hid (W0.out.below hmk)
  replace GMI := Lib.hid (GMI.out.below hmk)
  replace S0 := Lib.hid (S0.out.below hmk)
  replace HB := Lib.hid (HB.out.trans (hmk.mono HB.out.size))
  have S1 := Lib.hid hkS1
  clear hkS1
  clear hmk
  go_wp2_with fail
  refine (toIntS_any _ _ _ _ _ z2 A2 hz2).mono ?_
  rintro e w37 ⟨rfl, hkS2, hmk⟩
  have hsw37 := hmk.size
  replace A0 := A0.below hmk
  replace A1 := A1.below hmk
  replace A2 := A2.below hmk
  replace W0 := Lib.hid (W0.out.below hmk)
  replace GMI := Lib.hid (GMI.out.below hmk)
  replace S0 := Lib.hid (S0.out.below hmk)
  replace S1 := Lib.hid (S1.out.below hmk)
  replace HB := Lib.hid (HB.out.trans (hmk.mono HB.out.size))
  have S2 := Lib.hid (IntsIn.mk hkS2 A2 hz2)
  clear hkS2
  clear hmk
  go_wp2_with fail
  have C := implPN _ _ _ _ _ _ _ _ _ _ z0.length z1.length z2.length a3 a4 z0 z1 z2 S0.out.lists S1.out.items S2.out.ints
  rw [HRV.out] at C
  refine (C).mono ?_
  rintro e w38 ⟨gH0, cpH0, rfl, hoH0, hcpH0, hmk⟩
  have hsw38 := hmk.size
  replace A0 := A0.below hmk
  replace A1 := A1.below hmk
  replace A2 := A2.below hmk
  replace W0 := Lib.hid (W0.out.below hmk)
  replace GMI := Lib.hid (GMI.out.below hmk)
  replace S0 := Lib.hid (S0.out.below hmk)
  replace S1 := Lib.hid (S1.out.below hmk)
  replace S2 := Lib.hid (S2.out.below hmk)
  replace HB := Lib.hid (HB.out.trans (hmk.mono HB.out.size))
  have H0 := Lib.hid hoH0
  clear hoH0 hcpH0
  clear hmk
  clear C
  clear S0
  clear S1
  clear S2
  go_wp2_with fail
  refine (eqHitS_same _ _ _ _ _ _ _ cpH0 cpW0 rv H0.out.1 W0.out.1).mono ?_
  rintro e w39 ⟨rfl, hmk⟩
  have hsw39 := hmk.size
  replace A0 := A0.below hmk
  replace A1 := A1.below hmk
  replace A2 := A2.below hmk
  replace W0 := Lib.hid (W0.out.below hmk)
  replace GMI := Lib.hid (GMI.out.below hmk)
  replace H0 := Lib.hid (H0.out.below hmk)
  replace HB := Lib.hid (HB.out.trans (hmk.mono HB.out.size))
  clear hmk
  go_wp2_with fail
  refine (heldHitS_any _ _ _ _ _ rv.length 1 GMI.out.1 (by omega) (by omega) (by omega)).mono ?_
  rintro e w40 ⟨rfl, rfl⟩
  go_wp2_with fail
  go_ret
  exact ⟨rfl, HB.out⟩
theorem own : ownKnob Try.prog.godebug = none := by kernel_rfl
theorem laidOut : laidOutB Try.prog = true := by kernel_rfl

set_option maxRecDepth 100000 in
theorem lifted (os : Os) (started : os.Started) (H : Type) (enc : TypeId × Value → H) :
    ReturnsInHanded {} Try.checked os 5 .any (Rows.fnExactProbeNearestSpec.pre6 enc Try.prog Try.f5 Rows.fnExactProbeNearestRow.domain false) (Rows.fnExactProbeNearestSpec.post enc Try.prog Try.f5 false true false false) := by
  refine returnsInHanded_of_change (C := Try.checked) own started (by kernel_rfl) Try.func5
    (ChangeSpec.witness6 (enc := enc) (C := Try.checked) false ⟨#[], #[.slice none 0 0, .slice none 0 0, .slice none 0 0, .int .i64 0, .int .i64 0], []⟩ 8 (by kernel_rfl) (by kernel_rfl) (by kernel_rfl) (by kernel_rfl)) ?_
  intro W base args ds gs before hval0 hW hcnd _
  have hval : ∀ (j : Nat) t v, Try.f5.params[j]? = some t → args[j]? = some v → Value.okWide Try.prog W .any base t v := hval0
  have hW' := hW
  obtain ⟨p, q, hA0, hV, rfl, hfz, hnd⟩ := hW
  have hA : DataW.TrodAll enc Try.prog W 0 (fun _ => true) true Try.f5.params.toList args.toList ds p := hA0
  rw [Try.params5] at hA hval
  obtain ⟨v0, vs0, d0, ds0, p0, q0, hargs, rfl, rfl, h0, r0⟩ := trodAll_cons hA
  obtain ⟨v1, vs1, d1, ds1, p1, q1, rfl, rfl, rfl, h1, r1⟩ := trodAll_cons r0
  obtain ⟨v2, vs2, d2, ds2, p2, q2, rfl, rfl, rfl, h2, r2⟩ := trodAll_cons r1
  obtain ⟨v3, vs3, d3, ds3, p3, q3, rfl, rfl, rfl, h3, r3⟩ := trodAll_cons r2
  obtain ⟨v4, vs4, d4, ds4, p4, q4, rfl, rfl, rfl, h4, r4⟩ := trodAll_cons r3
  obtain ⟨rfl, rfl, rfl⟩ := trodAll_nil r4
  obtain rfl : args = #[v0, v1, v2, v3, v4] := by cases args; simp_all
  obtain ⟨rfl, rfl⟩ := trodVars_none hV
  obtain ⟨a0, len0, cap0, rfl⟩ := okWide_slice Try.underlying23 (hval 0 23 v0 rfl rfl)
  have k0 := h0
  have lt0 : ∀ x ∈ p0, x.block < W.heap.size := by obtain ⟨m, hm⟩ := k0; exact DataW.trod_lt m _ _ _ hm
  obtain ⟨fuel0, hf0⟩ := h0
  obtain ⟨z0, hz0, w0⟩ := lists_of_trod hf0
  subst hz0
  obtain ⟨a1, len1, cap1, rfl⟩ := okWide_slice Try.underlying36 (hval 1 36 v1 rfl rfl)
  have k1 := h1
  have lt1 : ∀ x ∈ p1, x.block < W.heap.size := by obtain ⟨m, hm⟩ := k1; exact DataW.trod_lt m _ _ _ hm
  obtain ⟨fuel1, hf1⟩ := h1
  obtain ⟨z1, hz1, w1⟩ := items_of_trod hf1
  subst hz1
  obtain ⟨a2, len2, cap2, rfl⟩ := okWide_slice Try.underlying25 (hval 2 25 v2 rfl rfl)
  have k2 := h2
  have lt2 : ∀ x ∈ p2, x.block < W.heap.size := by obtain ⟨m, hm⟩ := k2; exact DataW.trod_lt m _ _ _ hm
  obtain ⟨fuel2, hf2⟩ := h2
  obtain ⟨z2, hz2, w2⟩ := ints_of_trod hf2
  subst hz2
  obtain ⟨a3, rfl, rfl, rfl, w3⟩ := open_int Try.underlying3 (hval 3 3 v3 rfl rfl) h3
  obtain ⟨a4, rfl, rfl, rfl, w4⟩ := open_int Try.underlying3 (hval 4 3 v4 rfl rfl) h4
  clear hA0 hval0
  refine (walk a0 cap0 z0 a1 cap1 z1 a2 cap2 z2 a3 a4 W w0 w1 w2 w3 w4).mono fun e W' ⟨he, bel⟩ => ?_
  subst he
  exact ⟨_, rfl, _, _, _, [], _, [], hW', trodAll_mk1 (shut_bool Try.underlying4 _), (trodAll_cons_mk (Below.trod laidOut (by kernel_rfl) (of_decide_eq_true (by kernel_rfl)) k0 bel lt0) (trodAll_cons_mk (Below.trod laidOut (by kernel_rfl) (of_decide_eq_true (by kernel_rfl)) k1 bel lt1) (trodAll_cons_mk (Below.trod laidOut (by kernel_rfl) (of_decide_eq_true (by kernel_rfl)) k2 bel lt2) (trodAll_cons_mk (shut_int Try.underlying3 w3) (trodAll_cons_mk (shut_int Try.underlying3 w4) trodAll_mk0))))), rfl, bel.frame _, fun h => by cases h⟩

theorem over : Rows.fnExactProbeNearestRow.holds Try.pinned (OpenSpec.ofChange Rows.fnExactProbeNearestSpec) :=
  OpenClaim.holds_of_wide 5 Try.f5 rfl rfl rfl rfl rfl rfl rfl ⟨rfl, rfl, rfl, rfl, rfl⟩ rfl rfl rfl rfl rfl (by kernel_rfl) Try.func5 (by kernel_rfl)
    (of_decide_eq_true (by kernel_rfl)) (by unfold Func.isWrapper; first | (rw [if_pos (by decide +kernel)]; kernel_rfl) | (rw [if_neg (by decide +kernel)]; exact ⟨rfl, rfl⟩))
    (fun os started H enc _ => lifted os started H enc)

/-- THE STATEMENT -/
theorem proved : Rows.FnExactProbeNearestSaid :=
  over
#print axioms proved
end Go.Proofs.Ytmpoljhdcgdnnaa.fnExactProbeNearest
