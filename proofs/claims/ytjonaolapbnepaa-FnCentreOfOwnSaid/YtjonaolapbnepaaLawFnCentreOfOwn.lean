/-
  For all codes: of the centres that the code draws: CentreOf a centre is a centre that is equal to it, and not behind it. No condition.
-/
import Derived.Test.YtjonaolapbnepaaRows
import Derived.Test.YtjonaolapbnepaaVecTops
import Derived.Test.YtjonaolapbnepaaDrawTops
import Derived.Test.YtjonaolapbnepaaEqWalks
import Derived.ProofKit
import Derived.OpenShut
import Derived.ShutString
import Derived.ChangeOld
namespace Go.Proofs.Ytjonaolapbnepaa.fnCentreOfOwn
open Go.ChangeShapes Go.WideShapes Go.ChangeAt Go.RowKit
set_option linter.unusedVariables false

set_option maxHeartbeats 1000000 in
theorem walk (a0 : Option Addr) (len0 cap0 : Nat) (z0 : List Int) (w : World) (w0 : IsRow .u8 w a0 len0 cap0 z0) :
    Calls Try.prog 14 #[.slice a0 len0 cap0] w fun e w' => e = .returned (.bool true) ∧ Below w.heap.size w w' := by
  by_cases hl : 1048576 < len0
  · clear w0
    go_enter Try.func14, Try.ntmps14
    go_wp2
    go_ret
    exact ⟨rfl, Below.refl _ _⟩
  · have H := Lib.hid (bytes_of_row w0 (by omega))
    clear w0
    go_enter Try.func14, Try.ntmps14
    go_wp2_with fail
    refine (DrawCentreOf_any _ _ _ _ _ H.out).mono ?_
    rintro e w1 ⟨a, b, cap, cap', ll, m, rfl, ⟨hl, hcap⟩, ⟨hi, hcap2⟩, hq, hb⟩
    have HB := Lib.hid hb
    have hc1 := hcap.1
    have hc2 := hcap.2
    have hc3 := hcap2.1
    have hc4 := hcap2.2
    have hq1 := hq.1
    clear hb hcap hcap2 hq
    go_wp2_with fail

    refine (implCentreOf _ _ _ _ _ _ _ _ _ _ _ hl hi).mono ?_
    rintro e w2 ⟨rfl, hdrw⟩
    replace hl := hl.drawn hdrw
    replace hi := hi.drawn hdrw
    replace HB := Lib.hid (HB.out.trans hdrw.below)
    clear hdrw
    go_wp2_with fail
    refine (specCentreOf _ _ _ _ _ _ _ _ _ _ _ hl hi).mono ?_
    rintro e w3 ⟨rfl, hdrw⟩
    replace hl := hl.drawn hdrw
    replace hi := hi.drawn hdrw
    replace HB := Lib.hid (HB.out.trans hdrw.below)
    clear hdrw
    by_cases hv : cenB ll 4 = true ∧ vecB m 4 = true
    · have he := centreV_yes hv.1 hv.2
      have hlen := cenB_len hv.1
      have hnr := near_lt m hlen.1
      rw [he]
      clear he
      have V := Lib.hid hv
      clear hv
      obtain ⟨nr, hnr'⟩ : ∃ nr, near ll m = nr := ⟨_, rfl⟩
      rw [hnr'] at hnr ⊢
      clear hnr'
      go_wp2_with fail
      go_loopw [6] (fun i wr => ∃ k : Nat, k ≤ ll.length ∧ i = .int .i64 (k : Int) ∧ Hid (Below w.heap.size w wr) ∧ Hid (Lists wr 0 w1.heap.size a ll)) (fun i _ => ll.length - (intOf i).toNat)
      case atStart => exact ⟨0, Nat.zero_le _, rfl, HB, hl⟩
      case round =>
        obtain ⟨k, hk, rfl, HB, HL⟩ := hrel
        have hl := HL.out
        by_cases hlt : k < ll.length
        · obtain ⟨p, off, ak, ck, rfl, _, _, hc, hx⟩ := hl.at_ hlt
          have VX := cenB_at V.out.1 hlt
          have hvx := centreV_yes V.out.1 VX
          have hns := near_lt (ll.getD k []) hlen.1
          have VN := cenB_at V.out.1 hns
          have hself := near_self hlt rfl (by have := vecB_len VX; have := vecB_len VN; omega)
          obtain ⟨p', off', an, cn, he', _, _, hcn, hxn⟩ := hl.at_ hns
          simp only [Option.some.injEq, Addr.mk.injEq] at he'
          obtain ⟨rfl, rfl, _⟩ := he'
          rw [hself.1] at hcn hxn
          obtain ⟨q, hq⟩ : ∃ q, near ll (ll.getD k []) = q := ⟨_, rfl⟩
          have hqk := hself.2
          rw [hq] at hvx hcn hqk hns
          obtain ⟨x, hx'⟩ : ∃ x, ll.getD k [] = x := ⟨_, rfl⟩
          rw [hx'] at hvx hcn hxn hc hx
          have HV := Lib.hid hvx
          clear hself hq hx' hvx VX VN
          have g1 : decide (((q : Nat) : Int) < 0) = false := decide_eq_false (by omega)
          have g2 : decide (((k : Nat) : Int) < ((q : Nat) : Int)) = false := decide_eq_false (by omega)
          go_wp2_with fail
          refine (implCentreOf _ _ _ _ _ _ _ _ _ _ _ hl hx).mono ?_
          rintro e w5 ⟨rfl, hdrw⟩
          replace hl := hl.drawn hdrw
          replace hx := hx.drawn hdrw
          replace hxn := hxn.drawn hdrw
          replace hc := hdrw.cell hc
          replace hcn := hdrw.cell hcn
          replace HB := Lib.hid (HB.out.trans hdrw.below)
          clear hdrw
          rw [HV.out]
          have D1 := Lib.hid fun n : Nat => equalInts_any (w5.drewN n) _ _ _ _ _ _ cn ck x x (hxn.drawn ⟨n, rfl⟩) (hx.drawn ⟨n, rfl⟩)
          rw [eqL_self] at D1
          go_wp2_with fail
          go_quiet ((go_at_call 35; exact quiet_drawn (D1.out _)))
          go_wp2_with fail
          go_roundw
          case rel => exact ⟨k + 1, by omega, by go_num, Lib.hid (HB.out.trans (Drawn.below ⟨_, rfl⟩)), hl.drawn ⟨_, rfl⟩⟩
          case measure => simp [intOf]; omega
        · go_wp2_with fail
          go_ret
          exact ⟨rfl, HB.out⟩

    · have he : centreV ll m = -1 := by
        cases h1 : cenB ll 4
        · exact centreV_no1 h1
        · cases h2 : vecB m 4
          · exact centreV_no2 h2
          · exact absurd ⟨h1, h2⟩ hv
      rw [he]
      go_wp2_with fail
      refine (specCentreOf _ _ _ _ _ _ _ _ _ _ _ hl hi).mono ?_
      rintro e w4 ⟨rfl, hdrw⟩
      replace hl := hl.drawn hdrw
      replace hi := hi.drawn hdrw
      replace HB := Lib.hid (HB.out.trans hdrw.below)
      clear hdrw
      rw [he]
      go_wp2_with fail
      go_ret
      exact ⟨rfl, HB.out⟩
theorem own : ownKnob Try.prog.godebug = none := by kernel_rfl
theorem laidOut : laidOutB Try.prog = true := by kernel_rfl

set_option maxRecDepth 100000 in
theorem lifted (os : Os) (started : os.Started) (H : Type) (enc : TypeId × Value → H) :
    ReturnsInHanded {} Try.checked os 14 .any (Rows.fnCentreOfOwnSpec.pre6 enc Try.prog Try.f14 Rows.fnCentreOfOwnRow.domain false) (Rows.fnCentreOfOwnSpec.post enc Try.prog Try.f14 false true false false) := by
  refine returnsInHanded_of_change (C := Try.checked) own started (by kernel_rfl) Try.func14
    (ChangeSpec.witness6 (enc := enc) (C := Try.checked) false ⟨#[], #[.slice none 0 0], []⟩ 8 (by kernel_rfl) (by kernel_rfl) (by kernel_rfl) (by kernel_rfl)) ?_
  intro W base args ds gs before hval0 hW hcnd _
  have hval : ∀ (j : Nat) t v, Try.f14.params[j]? = some t → args[j]? = some v → Value.okWide Try.prog W .any base t v := hval0
  have hW' := hW
  obtain ⟨p, q, hA0, hV, rfl, hfz, hnd⟩ := hW
  have hA : DataW.TrodAll enc Try.prog W 0 (fun _ => true) true Try.f14.params.toList args.toList ds p := hA0
  rw [Try.params14] at hA hval
  obtain ⟨v0, vs0, d0, ds0, p0, q0, hargs, rfl, rfl, h0, r0⟩ := trodAll_cons hA
  obtain ⟨rfl, rfl, rfl⟩ := trodAll_nil r0
  obtain rfl : args = #[v0] := by cases args; simp_all
  obtain ⟨rfl, rfl⟩ := trodVars_none hV
  obtain ⟨a0, len0, cap0, rfl⟩ := okWide_slice Try.underlying27 (hval 0 27 v0 rfl rfl)
  have k0 := h0
  have lt0 : ∀ x ∈ p0, x.block < W.heap.size := by obtain ⟨m, hm⟩ := k0; exact DataW.trod_lt m _ _ _ hm
  obtain ⟨z0, w0⟩ : ∃ zs, IsRow .u8 W a0 len0 cap0 zs := by
    obtain ⟨fuel, hf⟩ := h0
    rcases open_ints Try.underlying27 Try.underlying5 (by kernel_rfl) hf with ⟨hcs, _⟩ | ⟨x, l, c, zs, hcs, _, hl, hm, hz, _, hcell, hwz⟩
    · simp [Value.cells] at hcs
      obtain ⟨rfl, rfl, rfl⟩ := hcs
      exact ⟨[], .inl ⟨rfl, rfl, rfl, rfl⟩⟩
    · simp [Value.cells] at hcs
      obtain ⟨rfl, rfl, rfl⟩ := hcs
      exact ⟨zs, .inr ⟨_, rfl, hl, hm, by simpa using hz, hcell, hwz⟩⟩
  clear hA0 hval0
  refine (walk a0 len0 cap0 z0 W w0).mono fun e W' ⟨he, bel⟩ => ?_
  subst he
  exact ⟨_, rfl, _, _, _, [], _, [], hW', trodAll_mk1 (shut_bool Try.underlying4 _), (trodAll_cons_mk (Below.trod laidOut (by kernel_rfl) (of_decide_eq_true (by kernel_rfl)) k0 bel lt0) trodAll_mk0), rfl, bel.frame _, fun h => by cases h⟩

theorem over : Rows.fnCentreOfOwnRow.holds Try.pinned (OpenSpec.ofChange Rows.fnCentreOfOwnSpec) :=
  OpenClaim.holds_of_wide 14 Try.f14 rfl rfl rfl rfl rfl rfl rfl ⟨rfl, rfl, rfl, rfl, rfl⟩ rfl rfl rfl rfl rfl (by kernel_rfl) Try.func14 (by kernel_rfl)
    (of_decide_eq_true (by kernel_rfl)) (by unfold Func.isWrapper; first | (rw [if_pos (by decide +kernel)]; kernel_rfl) | (rw [if_neg (by decide +kernel)]; exact ⟨rfl, rfl⟩))
    (fun os started H enc _ => lifted os started H enc)

/-- THE STATEMENT -/
theorem proved : Rows.FnCentreOfOwnSaid :=
  over
#print axioms proved
end Go.Proofs.Ytjonaolapbnepaa.fnCentreOfOwn
