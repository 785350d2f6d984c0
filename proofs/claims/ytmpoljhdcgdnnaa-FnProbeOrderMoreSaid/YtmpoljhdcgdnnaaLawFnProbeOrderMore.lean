/-
  For all codes: of the centres, the vector and the number that the code draws: ProbeOrder is what the reference says, and of one probe more begins with it. No condition.
-/
import Derived.Test.YtmpoljhdcgdnnaaRows
import Derived.Test.YtmpoljhdcgdnnaaProbeTops
import Derived.Test.YtmpoljhdcgdnnaaDrawProbe
import Derived.Test.YtmpoljhdcgdnnaaEqWalks
import Derived.ProofKit
import Derived.OpenShut
import Derived.ShutString
import Derived.ChangeOld
namespace Go.Proofs.Ytmpoljhdcgdnnaa.fnProbeOrderMore
open Go.ChangeShapes Go.WideShapes Go.ChangeAt Go.RowKit
set_option linter.unusedVariables false

set_option maxHeartbeats 1000000 in
theorem walk (a0 : Option Addr) (len0 cap0 : Nat) (z0 : List Int) (w : World) (w0 : IsRow .u8 w a0 len0 cap0 z0) :
    Calls Try.prog 7 #[.slice a0 len0 cap0] w fun e w' => e = .returned (.bool true) ∧ Below w.heap.size w w' := by
  by_cases hl : 1048576 < len0
  · clear w0
    go_enter Try.func7, Try.ntmps7
    go_wp2
    go_ret
    exact ⟨rfl, Below.refl _ _⟩
  · have H := Lib.hid (bytes_of_row w0 (by omega))
    clear w0
    go_enter Try.func7, Try.ntmps7
    go_wp2_with fail
    refine (DrawProbeOrder_any _ _ _ _ _ H.out).mono ?_
    rintro e w1 ⟨a, b, cap, cap', ll, m, k, rfl, ⟨hl, hcap⟩, ⟨hi, hcap2⟩, hq, hk, hb⟩
    have HB := Lib.hid hb
    have hc1 := hcap.1
    have hc2 := hcap.2
    have hc3 := hcap2.1
    have hc4 := hcap2.2
    have hq1 := hq.1
    clear hb hcap hcap2 hq
    go_wp2_with fail
    refine (implProbe_read _ _ _ _ _ _ _ _ _ k ll m hl hi).mono ?_
    rintro e w2 ⟨g, gcap, rfl, hg, hgc, hmk⟩
    replace hl := hl.below hmk
    replace hi := hi.below hmk
    replace HB := Lib.hid (HB.out.trans (hmk.mono HB.out.size))
    clear hmk
    go_wp2_with fail
    refine (specProbe_read _ _ _ _ _ _ _ _ _ k ll m hl hi).mono ?_
    rintro e w3 ⟨g3, gcap3, rfl, hg3, hgc3, hmk⟩
    replace hl := hl.below hmk
    replace hi := hi.below hmk
    replace hg := hg.below hmk
    replace HB := Lib.hid (HB.out.trans (hmk.mono HB.out.size))
    clear hmk
    go_wp2_with fail
    refine (equalInts_any _ _ _ _ _ _ _ gcap gcap3 _ _ hg hg3).mono ?_
    rintro e w4 ⟨rfl, hdrw⟩
    replace hl := hl.drawn hdrw
    replace hi := hi.drawn hdrw
    replace hg := hg.drawn hdrw
    replace hg3 := hg3.drawn hdrw
    replace HB := Lib.hid (HB.out.trans hdrw.below)
    have HS_w4 := Lib.hid (congrArg Array.size hdrw.heap)
    clear hdrw
    rw [eqL_self]

    by_cases hz : (prbV ll m k).length = 0
    · have hz' : (((prbV ll m k).length : Int) == 0) = true := by rw [beq_iff_eq]; omega
      clear hz
      go_wp2_with fail
      refine (specProbe_read _ _ _ _ _ _ _ _ _ k ll m hl hi).mono ?_
      rintro e w5 ⟨g5, gcap5, rfl, hg5, hgc5, hmk⟩
      replace hl := hl.below hmk
      replace hi := hi.below hmk
      replace hg := hg.below hmk
      replace HB := Lib.hid (HB.out.trans (hmk.mono HB.out.size))
      clear hmk
      go_wp2_with fail
      refine (equalInts_any _ _ _ _ _ _ _ gcap gcap5 _ _ hg hg5).mono ?_
      rintro e w6 ⟨rfl, hdrw⟩
      replace HB := Lib.hid (HB.out.trans hdrw.below)
      have HS_w6 := Lib.hid (congrArg Array.size hdrw.heap)
      clear hdrw
      rw [eqL_self]
      go_wp2_with fail
      go_ret
      exact ⟨rfl, HB.out⟩
    · have hz' : (((prbV ll m k).length : Int) == 0) = false := by rw [beq_eq_false_iff_ne]; omega
      by_cases h4 : k = 4
      · subst h4
        clear hz
        go_wp2_with fail
        refine (specProbe_read _ _ _ _ _ _ _ _ _ 4 ll m hl hi).mono ?_
        rintro e w5 ⟨g5, gcap5, rfl, hg5, hgc5, hmk⟩
        replace hl := hl.below hmk
        replace hi := hi.below hmk
        replace hg := hg.below hmk
        replace HB := Lib.hid (HB.out.trans (hmk.mono HB.out.size))
        clear hmk
        go_wp2_with fail
        refine (equalInts_any _ _ _ _ _ _ _ gcap gcap5 _ _ hg hg5).mono ?_
        rintro e w6 ⟨rfl, hdrw⟩
        replace HB := Lib.hid (HB.out.trans hdrw.below)
        have HS_w6 := Lib.hid (congrArg Array.size hdrw.heap)
        clear hdrw
        rw [eqL_self]
        go_wp2_with fail
        go_ret
        exact ⟨rfl, HB.out⟩
      · have h4' : (k == 4) = false := by rw [beq_eq_false_iff_ne]; exact h4
        have HM := Lib.hid (prbV_more hz h4)
        have hml := HM.out.1
        have hlen5 := (prbV_ok ll m (k + 1)).2.1
        have hw1 : IntKind.i64.wrap (k + 1) = k + 1 := wrap_in (by omega)
        clear hz h4 hg3 hgc3
        go_wp2_with fail
        refine (implProbe_read _ _ _ _ _ _ _ _ _ (k + 1) ll m hl hi).mono ?_
        rintro e w5 ⟨g5, gcap5, rfl, hg5, hgc5, hmk⟩
        replace hl := hl.below hmk
        replace hi := hi.below hmk
        replace hg := hg.below hmk
        replace HB := Lib.hid (HB.out.trans (hmk.mono HB.out.size))
        clear hmk
        have EQ := Lib.hid (equalInts_any w5 _ _ _ _ _ _ gcap5 gcap _ _ (hg5.take (prbV ll m k).length) hg)
        have HT : Hid (((prbV ll m (k + 1)).take (prbV ll m k).length).length = (prbV ll m k).length) := Lib.hid (by rw [List.length_take]; omega)
        rw [HM.out.2, eqL_self] at EQ
        have q1 := hgc5.1
        have q2 := hgc5.2
        have q3 : (prbV ll m k).length ≤ gcap5 := by omega
        have q4 : ((prbV ll m k).length : Int) ≤ (prbV ll m (k + 1)).length := by omega
        obtain ⟨n5, e5⟩ : ∃ n, (prbV ll m (k + 1)).length = n := ⟨_, rfl⟩
        obtain ⟨n1, e1⟩ : ∃ n, (prbV ll m k).length = n := ⟨_, rfl⟩
        rw [e5] at q1 q4 hml hlen5
        rw [e1] at EQ q3 q4 hml hz' ⊢
        rw [e5]
        clear hg5 hgc5 hg hgc e5 e1 HM HT
        go_wp2_with fail
        refine EQ.out.mono ?_
        rintro e w6 ⟨rfl, hd⟩
        replace HB := Lib.hid (HB.out.trans (Drawn.below hd))
        clear hd
        go_wp2_with fail
        go_ret
        exact ⟨by simp, HB.out⟩
theorem own : ownKnob Try.prog.godebug = none := by kernel_rfl
theorem laidOut : laidOutB Try.prog = true := by kernel_rfl

set_option maxRecDepth 100000 in
theorem lifted (os : Os) (started : os.Started) (H : Type) (enc : TypeId × Value → H) :
    ReturnsInHanded {} Try.checked os 7 .any (Rows.fnProbeOrderMoreSpec.pre6 enc Try.prog Try.f7 Rows.fnProbeOrderMoreRow.domain false) (Rows.fnProbeOrderMoreSpec.post enc Try.prog Try.f7 false true false false) := by
  refine returnsInHanded_of_change (C := Try.checked) own started (by kernel_rfl) Try.func7
    (ChangeSpec.witness6 (enc := enc) (C := Try.checked) false ⟨#[], #[.slice none 0 0], []⟩ 8 (by kernel_rfl) (by kernel_rfl) (by kernel_rfl) (by kernel_rfl)) ?_
  intro W base args ds gs before hval0 hW hcnd _
  have hval : ∀ (j : Nat) t v, Try.f7.params[j]? = some t → args[j]? = some v → Value.okWide Try.prog W .any base t v := hval0
  have hW' := hW
  obtain ⟨p, q, hA0, hV, rfl, hfz, hnd⟩ := hW
  have hA : DataW.TrodAll enc Try.prog W 0 (fun _ => true) true Try.f7.params.toList args.toList ds p := hA0
  rw [Try.params7] at hA hval
  obtain ⟨v0, vs0, d0, ds0, p0, q0, hargs, rfl, rfl, h0, r0⟩ := trodAll_cons hA
  obtain ⟨rfl, rfl, rfl⟩ := trodAll_nil r0
  obtain rfl : args = #[v0] := by cases args; simp_all
  obtain ⟨rfl, rfl⟩ := trodVars_none hV
  obtain ⟨a0, len0, cap0, rfl⟩ := okWide_slice Try.underlying22 (hval 0 22 v0 rfl rfl)
  have k0 := h0
  have lt0 : ∀ x ∈ p0, x.block < W.heap.size := by obtain ⟨m, hm⟩ := k0; exact DataW.trod_lt m _ _ _ hm
  obtain ⟨z0, w0⟩ : ∃ zs, IsRow .u8 W a0 len0 cap0 zs := by
    obtain ⟨fuel, hf⟩ := h0
    rcases open_ints Try.underlying22 Try.underlying5 (by kernel_rfl) hf with ⟨hcs, _⟩ | ⟨x, l, c, zs, hcs, _, hl, hm, hz, _, hcell, hwz⟩
    · simp [Value.cells] at hcs
      obtain ⟨rfl, rfl, rfl⟩ := hcs
      exact ⟨[], .inl ⟨rfl, rfl, rfl, rfl⟩⟩
    · simp [Value.cells] at hcs
      obtain ⟨rfl, rfl, rfl⟩ := hcs
      exact ⟨zs, .inr ⟨_, rfl, hl, hm, by simpa using hz, hcell, hwz⟩⟩
  clear hA0 hval0
  refine (walk a0 len0 cap0 z0 W w0).mono fun e W' ⟨he, bel⟩ => ?_
  subst he
  exact ⟨_, rfl, _, _, _, [], _, [], hW', trodAll_mk1 (shut_bool Try.underlying4 _), (trodAll_cons_mk (Below.trod laidOut (by kernel_rfl) (of_decide_eq_true (by kernel_rfl)) k0 bel lt0) trodAll_mk0), rfl, bel.frame _, fun h => by cases h⟩

theorem over : Rows.fnProbeOrderMoreRow.holds Try.pinned (OpenSpec.ofChange Rows.fnProbeOrderMoreSpec) :=
  OpenClaim.holds_of_wide 7 Try.f7 rfl rfl rfl rfl rfl rfl rfl ⟨rfl, rfl, rfl, rfl, rfl⟩ rfl rfl rfl rfl rfl (by kernel_rfl) Try.func7 (by kernel_rfl)
    (of_decide_eq_true (by kernel_rfl)) (by unfold Func.isWrapper; first | (rw [if_pos (by decide +kernel)]; kernel_rfl) | (rw [if_neg (by decide +kernel)]; exact ⟨rfl, rfl⟩))
    (fun os started H enc _ => lifted os started H enc)

/-- THE STATEMENT -/
theorem proved : Rows.FnProbeOrderMoreSaid :=
  over
#print axioms proved
end Go.Proofs.Ytmpoljhdcgdnnaa.fnProbeOrderMore
