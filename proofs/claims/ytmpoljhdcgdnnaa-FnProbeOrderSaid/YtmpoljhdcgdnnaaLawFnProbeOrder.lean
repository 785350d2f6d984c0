/-
  For all codes: of the centres, the vector and the number that the code draws: ProbeOrder is what the reference says; it begins with the nearest centre, has as many as are asked for and there are, and the distances do not fall, the numbers of equal ones ascend. No condition.
-/
import Derived.Test.YtmpoljhdcgdnnaaRows
import Derived.Test.YtmpoljhdcgdnnaaProbeTops
import Derived.Test.YtmpoljhdcgdnnaaDrawProbe
import Derived.Test.YtmpoljhdcgdnnaaEqWalks
import Derived.Test.YtmpoljhdcgdnnaaVecTops
import Derived.Test.YtmpoljhdcgdnnaaOneTops
import Derived.ProofKit
import Derived.OpenShut
import Derived.ShutString
import Derived.ChangeOld
namespace Go.Proofs.Ytmpoljhdcgdnnaa.fnProbeOrder
open Go.ChangeShapes Go.WideShapes Go.ChangeAt Go.RowKit
set_option linter.unusedVariables false

set_option maxHeartbeats 1000000 in
theorem walk (a0 : Option Addr) (len0 cap0 : Nat) (z0 : List Int) (w : World) (w0 : IsRow .u8 w a0 len0 cap0 z0) :
    Calls Try.prog 8 #[.slice a0 len0 cap0] w fun e w' => e = .returned (.bool true) ∧ Below w.heap.size w w' := by
  by_cases hl : 1048576 < len0
  · clear w0
    go_enter Try.func8, Try.ntmps8
    go_wp2
    go_ret
    exact ⟨rfl, Below.refl _ _⟩
  · have H := Lib.hid (bytes_of_row w0 (by omega))
    clear w0
    go_enter Try.func8, Try.ntmps8
    go_wp2_with fail
    refine (DrawProbeOrder_any _ _ _ _ _ H.out).mono ?_
    rintro e w1 ⟨a, b, cap, cap', ll, m, k, rfl, ⟨hl, hcap⟩, ⟨hi, hcap2⟩, hq, hk, hb⟩
    have HB := Lib.hid hb
    have hc1 := hcap.1
    have hc2 := hcap.2
    have hc3 := hcap2.1
    have hc4 := hcap2.2
    have hq1 := hq.1
    clear hb hcap hcap2 hq
    go_wp2_with fail
    refine (implProbe_read _ _ _ _ _ _ _ _ _ k ll m hl hi).mono ?_
    rintro e w2 ⟨g, gcap, rfl, hg, hgc, hmk⟩
    replace hl := hl.below hmk
    replace hi := hi.below hmk
    replace HB := Lib.hid (HB.out.trans (hmk.mono HB.out.size))
    clear hmk
    go_wp2_with fail
    refine (specProbe_read _ _ _ _ _ _ _ _ _ k ll m hl hi).mono ?_
    rintro e w3 ⟨g3, gcap3, rfl, hg3, hgc3, hmk⟩
    replace hl := hl.below hmk
    replace hi := hi.below hmk
    replace hg := hg.below hmk
    replace HB := Lib.hid (HB.out.trans (hmk.mono HB.out.size))
    clear hmk
    go_wp2_with fail
    refine (equalInts_any _ _ _ _ _ _ _ gcap gcap3 _ _ hg hg3).mono ?_
    rintro e w4 ⟨rfl, hdrw⟩
    replace hl := hl.drawn hdrw
    replace hi := hi.drawn hdrw
    replace hg := hg.drawn hdrw
    replace hg3 := hg3.drawn hdrw
    replace HB := Lib.hid (HB.out.trans hdrw.below)
    have HS_w4 := Lib.hid (congrArg Array.size hdrw.heap)
    clear hdrw
    rw [eqL_self]

    by_cases hz : (prbV ll m k).length = 0
    · have hz' : (((prbV ll m k).length : Int) == 0) = true := by rw [beq_iff_eq]; omega
      clear hz
      go_wp2_with fail
      refine (specProbe_read _ _ _ _ _ _ _ _ _ k ll m hl hi).mono ?_
      rintro e w5 ⟨g5, gcap5, rfl, hg5, hgc5, hmk⟩
      replace hl := hl.below hmk
      replace hi := hi.below hmk
      replace hg := hg.below hmk
      replace HB := Lib.hid (HB.out.trans (hmk.mono HB.out.size))
      clear hmk
      go_wp2_with fail
      refine (equalInts_any _ _ _ _ _ _ _ gcap gcap5 _ _ hg hg5).mono ?_
      rintro e w6 ⟨rfl, hdrw⟩
      replace HB := Lib.hid (HB.out.trans hdrw.below)
      have HS_w6 := Lib.hid (congrArg Array.size hdrw.heap)
      clear hdrw
      rw [eqL_self]
      go_wp2_with fail
      go_ret
      exact ⟨rfl, HB.out⟩
    · have hz' : (((prbV ll m k).length : Int) == 0) = false := by rw [beq_eq_false_iff_ne]; omega
      have HV := Lib.hid (prbV_ne hz)
      have HN := Lib.hid (prbV_law hz)
      have hpl := (prbV_ok ll m k).2.2
      clear hg3 hgc3 hz
      obtain ⟨L, eL⟩ : ∃ L, prbV ll m k = L := ⟨_, rfl⟩
      rw [eL] at hg hgc hz' HN hpl ⊢
      clear eL
      go_wp2_with fail
      go_loopw [7] (fun i wr => ∃ j : Nat, (j = 0 ∨ j + 1 ≤ L.length) ∧ i = .int .i64 ((j : Int) + 1) ∧ Hid (Drawn w4 wr)) (fun i _ => L.length + 1 - (intOf i).toNat)
      case atStart => exact ⟨0, .inl rfl, rfl, Lib.hid (Drawn.refl _)⟩
      case round =>
        obtain ⟨j, hj, rfl, HD⟩ := hrel
        by_cases hlt : j + 1 < L.length
        · obtain ⟨p, off, rfl, _, _, c0, _⟩ := (hg.drawn HD.out).at_ (show j < L.length by omega)
          obtain ⟨p', off', he, _, _, c1, _⟩ := (hg.drawn HD.out).at_ hlt
          simp only [Option.some.injEq, Addr.mk.injEq] at he
          obtain ⟨rfl, rfl, _⟩ := he
          obtain ⟨x, hx, ex⟩ := HN.out.1 j (by omega)
          obtain ⟨y, hy, ey⟩ := HN.out.1 (j + 1) hlt
          have HASC := Lib.hid (HN.out.2.1 j x y hlt ex ey)
          have HHL := Lib.hid hl
          obtain ⟨q, qo, ax, cx, rfl, _, _, k0, hix⟩ := (hl.drawn HD.out).at_ hx
          obtain ⟨q', qo', ay, cy, he, _, _, k1, hiy⟩ := (HHL.out.drawn HD.out).at_ hy
          simp only [Option.some.injEq, Addr.mk.injEq] at he
          obtain ⟨rfl, rfl, _⟩ := he
          have HC01 := Lib.hid (And.intro c0 c1)
          rw [ex] at c0
          rw [ey] at c1
          have D1 := Lib.hid (implDistanceOf wr _ _ _ _ _ _ cx cap' _ m 3 hix (hi.drawn HD.out) (by omega) (cenB_at HV.out.1 hx) HV.out.2.1)
          have D2 := Lib.hid fun w' (d : Drawn wr w') => implDistanceOf w' _ _ _ _ _ _ cy cap' _ m 3 (hiy.drawn d) ((hi.drawn HD.out).drawn d) (by omega) (cenB_at HV.out.1 hy) HV.out.2.1
          have l4x : (ll.getD x []).length = 4 := by have := vecB_len (cenB_at HV.out.1 hx); omega
          have l4y : (ll.getD y []).length = 4 := by have := vecB_len (cenB_at HV.out.1 hy); omega
          rw [l4x] at k0 D1
          rw [l4y] at k1 D2
          clear l4x l4y
          obtain ⟨u, eu⟩ : ∃ u, ll.getD x [] = u := ⟨_, rfl⟩
          obtain ⟨v, ev⟩ : ∃ v, ll.getD y [] = v := ⟨_, rfl⟩
          rw [eu] at D1 HASC
          rw [ev] at D2 HASC
          obtain ⟨d1, e1⟩ : ∃ d, dst 3 u m 4 = d := ⟨_, rfl⟩
          obtain ⟨d2, e2⟩ : ∃ d, dst 3 v m 4 = d := ⟨_, rfl⟩
          rw [e1] at D1 HASC
          rw [e2] at D2 HASC
          have hj1 : (j : Int) < L.length := by omega
          have hj2 : (j : Int) + 1 < L.length := by omega
          have hwj : IntKind.i64.wrap (j : Int) = (j : Int) := wrap_in (by omega)
          have htj : ((j : Int) + 1).toNat = j + 1 := by omega
          have hxl : (x : Int) < ll.length := by omega
          have hyl : (y : Int) < ll.length := by omega
          clear hix hiy eu ev e1 e2 ex ey hj hlt
          go_wp2_with fail
          refine D1.out.mono ?_
          rintro e w5 ⟨rfl, hd5⟩
          have HD5 := Lib.hid hd5
          replace c1 := hd5.cell c1
          replace c0 := hd5.cell c0
          replace k1 := hd5.cell k1
          clear hd5 k0
          go_wp2_with fail
          refine (D2.out _ HD5.out).mono ?_
          rintro e w6 ⟨rfl, hd6⟩
          have HD6 := Lib.hid hd6
          replace c1 := hd6.cell c1
          replace c0 := hd6.cell c0
          clear hd6 k1
          by_cases hdd : d1 < d2
          · have q1 : decide (d2 < d1) = false := decide_eq_false (by omega)
            have q2 : (d1 == d2) = false := by rw [beq_eq_false_iff_ne]; omega
            clear HASC hdd
            go_wp2_with fail
            go_quiet (fail)
            go_wp2_with fail
            go_roundw
            case rel => exact ⟨j + 1, .inr (by omega), by go_num, Lib.hid ((HD.out.trans HD5.out).trans (HD6.out.more _))⟩
            case measure => simp [intOf]; omega
          · have HA2 := HASC.out
            have q0 : d1 = d2 := by omega
            have q4 : x < y := by omega
            subst q0
            have q1 : decide (d1 < d1) = false := decide_eq_false (by omega)
            have q2 : (d1 == d1) = true := beq_self_eq_true _
            have q3 : decide ((y : Int) ≤ (x : Int)) = false := decide_eq_false (by omega)
            have q5 : decide (y ≤ x) = false := decide_eq_false (by omega)
            clear HASC hdd HA2 q4
            go_wp2_with fail
            go_quiet (fail)
            go_wp2_with fail
            go_roundw
            case rel => exact ⟨j + 1, .inr (by omega), by go_num, Lib.hid ((HD.out.trans HD5.out).trans (HD6.out.more _))⟩
            case measure => simp [intOf]; omega
        · have hlt' : ¬ ((j : Int) + 1 < L.length) := by omega
          have hl0 := HN.out.2.2.2.1
          obtain ⟨p, off, rfl, _, _, c0, _⟩ := (hg.drawn HD.out).at_ hl0
          rw [HN.out.2.2.1, Nat.add_zero] at c0
          have CC := Lib.hid fun n : Nat => implCentreOf (wr.drewN n) _ _ _ _ _ _ cap cap' ll m ((hl.drawn HD.out).drawn ⟨n, rfl⟩) ((hi.drawn HD.out).drawn ⟨n, rfl⟩)
          obtain ⟨z, ez⟩ : ∃ z, centreV ll m = z := ⟨_, rfl⟩
          rw [ez] at c0 CC
          have hzz : (z == z) = true := beq_self_eq_true _
          have hl1 : (0 : Int) < L.length := by omega
          have HLL := Lib.hid HN.out.2.2.2.2
          by_cases hkl : k ≤ (ll.length : Int)
          · have hlk : ((L.length : Int) == k) = true := by rw [beq_iff_eq]; have := HLL.out; omega
            clear hj hlt ez
            go_wp2_with fail
            go_quiet ((go_at_call 38; exact quiet_drawn (CC.out _)))
            go_wp2_with fail
            go_ret
            exact ⟨rfl, HB.out.trans (HD.out.more _).below⟩
          · have hlk : ((L.length : Int) == (ll.length : Int)) = true := by rw [beq_iff_eq]; have := HLL.out; omega
            clear hj hlt ez
            go_wp2_with fail
            go_quiet ((go_at_call 38; exact quiet_drawn (CC.out _)))
            go_wp2_with fail
            go_ret
            exact ⟨rfl, HB.out.trans (HD.out.more _).below⟩
theorem own : ownKnob Try.prog.godebug = none := by kernel_rfl
theorem laidOut : laidOutB Try.prog = true := by kernel_rfl

set_option maxRecDepth 100000 in
theorem lifted (os : Os) (started : os.Started) (H : Type) (enc : TypeId × Value → H) :
    ReturnsInHanded {} Try.checked os 8 .any (Rows.fnProbeOrderSpec.pre6 enc Try.prog Try.f8 Rows.fnProbeOrderRow.domain false) (Rows.fnProbeOrderSpec.post enc Try.prog Try.f8 false true false false) := by
  refine returnsInHanded_of_change (C := Try.checked) own started (by kernel_rfl) Try.func8
    (ChangeSpec.witness6 (enc := enc) (C := Try.checked) false ⟨#[], #[.slice none 0 0], []⟩ 8 (by kernel_rfl) (by kernel_rfl) (by kernel_rfl) (by kernel_rfl)) ?_
  intro W base args ds gs before hval0 hW hcnd _
  have hval : ∀ (j : Nat) t v, Try.f8.params[j]? = some t → args[j]? = some v → Value.okWide Try.prog W .any base t v := hval0
  have hW' := hW
  obtain ⟨p, q, hA0, hV, rfl, hfz, hnd⟩ := hW
  have hA : DataW.TrodAll enc Try.prog W 0 (fun _ => true) true Try.f8.params.toList args.toList ds p := hA0
  rw [Try.params8] at hA hval
  obtain ⟨v0, vs0, d0, ds0, p0, q0, hargs, rfl, rfl, h0, r0⟩ := trodAll_cons hA
  obtain ⟨rfl, rfl, rfl⟩ := trodAll_nil r0
  obtain rfl : args = #[v0] := by cases args; simp_all
  obtain ⟨rfl, rfl⟩ := trodVars_none hV
  obtain ⟨a0, len0, cap0, rfl⟩ := okWide_slice Try.underlying22 (hval 0 22 v0 rfl rfl)
  have k0 := h0
  have lt0 : ∀ x ∈ p0, x.block < W.heap.size := by obtain ⟨m, hm⟩ := k0; exact DataW.trod_lt m _ _ _ hm
  obtain ⟨z0, w0⟩ : ∃ zs, IsRow .u8 W a0 len0 cap0 zs := by
    obtain ⟨fuel, hf⟩ := h0
    rcases open_ints Try.underlying22 Try.underlying5 (by kernel_rfl) hf with ⟨hcs, _⟩ | ⟨x, l, c, zs, hcs, _, hl, hm, hz, _, hcell, hwz⟩
    · simp [Value.cells] at hcs
      obtain ⟨rfl, rfl, rfl⟩ := hcs
      exact ⟨[], .inl ⟨rfl, rfl, rfl, rfl⟩⟩
    · simp [Value.cells] at hcs
      obtain ⟨rfl, rfl, rfl⟩ := hcs
      exact ⟨zs, .inr ⟨_, rfl, hl, hm, by simpa using hz, hcell, hwz⟩⟩
  clear hA0 hval0
  refine (walk a0 len0 cap0 z0 W w0).mono fun e W' ⟨he, bel⟩ => ?_
  subst he
  exact ⟨_, rfl, _, _, _, [], _, [], hW', trodAll_mk1 (shut_bool Try.underlying4 _), (trodAll_cons_mk (Below.trod laidOut (by kernel_rfl) (of_decide_eq_true (by kernel_rfl)) k0 bel lt0) trodAll_mk0), rfl, bel.frame _, fun h => by cases h⟩

theorem over : Rows.fnProbeOrderRow.holds Try.pinned (OpenSpec.ofChange Rows.fnProbeOrderSpec) :=
  OpenClaim.holds_of_wide 8 Try.f8 rfl rfl rfl rfl rfl rfl rfl ⟨rfl, rfl, rfl, rfl, rfl⟩ rfl rfl rfl rfl rfl (by kernel_rfl) Try.func8 (by kernel_rfl)
    (of_decide_eq_true (by kernel_rfl)) (by unfold Func.isWrapper; first | (rw [if_pos (by decide +kernel)]; kernel_rfl) | (rw [if_neg (by decide +kernel)]; exact ⟨rfl, rfl⟩))
    (fun os started H enc _ => lifted os started H enc)

/-- THE STATEMENT -/
theorem proved : Rows.FnProbeOrderSaid :=
  over
#print axioms proved
end Go.Proofs.Ytmpoljhdcgdnnaa.fnProbeOrder
