/-
  For all codes: of the centres and the store that the code draws: ListsOf is what the reference says; each key stands in the list of the centre that CentreOf names, and the lists have all items. No condition.
-/
import Derived.Test.YtelcnjdemepmfaaRows
import Derived.Test.YtelcnjdemepmfaaListsOfWalks
import Derived.Test.YtelcnjdemepmfaaItemOfWalk
import Derived.Test.YtelcnjdemepmfaaClusLaws
import Derived.Test.YtelcnjdemepmfaaDrawStoreTops
import Derived.Test.YtelcnjdemepmfaaEqWalks
import Derived.ProofKit
import Derived.OpenShut
import Derived.ShutString
import Derived.ChangeOld
namespace Go.Proofs.Ytelcnjdemepmfaa.fnListsOf
open Go.ChangeShapes Go.WideShapes Go.ChangeAt Go.RowKit
set_option linter.unusedVariables false

set_option maxHeartbeats 1000000 in
theorem walk (a0 : Option Addr) (len0 cap0 : Nat) (z0 : List Int) (w : World) (w0 : IsRow .u8 w a0 len0 cap0 z0) :
    Calls Try.prog 13 #[.slice a0 len0 cap0] w fun e w' => e = .returned (.bool true) ∧ Below w.heap.size w w' := by
  by_cases hl : 1048576 < len0
  · clear w0
    go_enter Try.func13, Try.ntmps13
    go_wp2
    go_ret
    exact ⟨rfl, Below.refl _ _⟩
  · have H := Lib.hid (bytes_of_row w0 (by omega))
    clear w0
    go_enter Try.func13, Try.ntmps13
    go_wp2_with fail
    refine (DrawListsOf_any _ _ _ _ _ H.out).mono ?_
    rintro e w1 ⟨a, b, cap, cap', cs, ll, rfl, ⟨hl, hcap⟩, ⟨hi, hcap2⟩, hq, hb⟩
    have HB := Lib.hid hb
    have hc1 := hcap.1
    have hc2 := hcap.2
    have hc3 := hcap2.1
    have hc4 := hcap2.2
    have hq1 := hq.1
    have hq2 := hq.2
    clear hb hcap hcap2 hq
    go_wp2_with fail

    refine (implListsOf_read _ _ _ _ _ _ _ _ _ cs ll hl hi).mono ?_
    rintro e w2 ⟨g, gcap, rfl, hg, hgc, hmk⟩
    replace hl := hl.below hmk
    replace hi := hi.below hmk
    replace HB := Lib.hid (HB.out.trans (hmk.mono HB.out.size))
    clear hmk
    go_wp2_with fail
    refine (specListsOf_read _ _ _ _ _ _ _ _ _ cs ll hl hi).mono ?_
    rintro e w3 ⟨g3, gcap3, rfl, hg3, hgc3, hmk⟩
    replace hl := hl.below hmk
    replace hi := hi.below hmk
    replace hg := hg.below hmk
    replace HB := Lib.hid (HB.out.trans (hmk.mono HB.out.size))
    clear hmk
    go_wp2_with fail
    refine (equalLists_any _ _ _ _ _ _ _ gcap gcap3 _ _ hg hg3).mono ?_
    rintro e w4 ⟨rfl, hdrw⟩
    replace hl := hl.drawn hdrw
    replace hi := hi.drawn hdrw
    replace hg := hg.drawn hdrw
    replace hg3 := hg3.drawn hdrw
    replace HB := Lib.hid (HB.out.trans hdrw.below)
    have HS_w4 := Lib.hid (congrArg Array.size hdrw.heap)
    clear hdrw
    rw [eqLL_self]
    clear hg3 hgc3

    cases hv : csB cs ll
    · have hz : (((lstV cs ll).length : Int) == 0) = true := by rw [lstV_no hv]; rfl
      go_wp2_with fail
      refine (specListsOf_read _ _ _ _ _ _ _ _ _ cs ll hl hi).mono ?_
      rintro e w5 ⟨g5, gcap5, rfl, hg5, hgc5, hmk⟩
      replace hl := hl.below hmk
      replace hi := hi.below hmk
      replace hg := hg.below hmk
      replace HB := Lib.hid (HB.out.trans (hmk.mono HB.out.size))
      clear hmk
      go_wp2_with fail
      refine (equalLists_any _ _ _ _ _ _ _ gcap gcap5 _ _ hg hg5).mono ?_
      rintro e w6 ⟨rfl, hdrw⟩
      replace HB := Lib.hid (HB.out.trans hdrw.below)
      have HS_w6 := Lib.hid (congrArg Array.size hdrw.heap)
      clear hdrw
      rw [eqLL_self]
      go_wp2_with fail
      go_ret
      exact ⟨rfl, HB.out⟩
    · have HV := Lib.hid hv
      have hl16 := storeB_len (csB_store hv)
      have hlc := (cenB_len (csB_cen hv)).1
      have hlc4 := (cenB_len (csB_cen hv)).2
      have HSA := Lib.hid (sumK_all (csB_cen hv) ll ll.length)
      have HLL : Hid ((lstV cs ll).length = cs.length) := Lib.hid (by rw [lstV_yes hv, lstT_length])
      have HG : Hid (∀ c, c < cs.length → (lstV cs ll).getD c [] = ownK cs ll c ll.length) := Lib.hid (fun c hc => by rw [lstV_yes hv, lstT_get hc])
      have hz : (((lstV cs ll).length : Int) == 0) = false := by rw [beq_eq_false_iff_ne, HLL.out]; omega
      obtain ⟨L, eL⟩ : ∃ L, lstV cs ll = L := ⟨_, rfl⟩
      rw [eL] at HLL HG hg hgc hz ⊢
      clear eL hv
      rw [HLL.out] at hgc hz ⊢
      go_wp2_with fail
      clear hz
      go_loopw [6, 7] (fun s i wr => ∃ c : Nat, c ≤ cs.length ∧ i = .int .i64 (c : Int) ∧ s = .int .i64 (sumK cs ll ll.length c : Int) ∧ Hid (Below w4.heap.size w4 wr)) (fun _ i _ => cs.length - (intOf i).toNat)
      case atStart => exact ⟨0, Nat.zero_le _, rfl, rfl, Below.refl _ _⟩
      case round =>
        obtain ⟨c, hc, rfl, rfl, HD⟩ := hrel
        by_cases hlt : c < cs.length
        · have hgr := hg.below HD.out
          obtain ⟨gb, go, ar, cr, rfl, _, _, hgc0, hrow⟩ := hgr.at_ (k := c) (by rw [HLL.out]; exact hlt)
          rw [HG.out c hlt] at hgc0 hrow
          have HMM := Lib.hid (fun x hx => ownK_mem (cs := cs) (ll := ll) (c := c) (k := ll.length) (x := x) hx)
          have hkl := ownK_len cs ll c ll.length
          have hsl := sumK_le cs ll ll.length c
          have hsl2 : ll.length * c ≤ 16 * 4 := Nat.mul_le_mul hl16 (by omega)
          have HSS : Hid (sumK cs ll ll.length (c + 1) = sumK cs ll ll.length c + (ownK cs ll c ll.length).length) := Lib.hid rfl
          obtain ⟨row, er⟩ : ∃ row, ownK cs ll c ll.length = row := ⟨_, rfl⟩
          rw [er] at hgc0 hrow HMM hkl HSS
          obtain ⟨sm, esm⟩ : ∃ sm, sumK cs ll ll.length c = sm := ⟨_, rfl⟩
          rw [esm] at HSS hsl ⊢
          have hsm : sm ≤ 64 := by omega
          have HRW := Lib.hid hrow
          have HC0 := Lib.hid hgc0
          have hci : (c : Int) < cs.length := by omega
          have hw1 : IntKind.i64.wrap ((sm : Int) + (row.length : Int)) = (sm : Int) + (row.length : Int) := wrap_in (by omega)
          clear er esm hgr hrow hsl hsl2
          rename World => wo
          go_wp2_with fail
          clear hgc0
          go_loopw [8] (fun i wr => ∃ k : Nat, k ≤ row.length ∧ i = .int .i64 (k : Int) ∧ Hid (Below wo.heap.size wo wr)) (fun i _ => row.length - (intOf i).toNat)
          case atStart => exact ⟨0, Nat.zero_le _, rfl, Below.refl _ _⟩
          case round =>
            obtain ⟨k, hk, rfl, HE⟩ := hrel
            have hb := HD.out.trans (HE.out.mono HD.out.size)
            have hc0 := cell_later HE.out HC0.out
            by_cases hlt2 : k < row.length
            · have hrr := HRW.out.below HE.out
              obtain ⟨rb, ro, rfl, _, _, x1, _⟩ := hrr.at_ (k := k) hlt2
              obtain ⟨j, hj1, hj2, hj3⟩ := HMM.out _ (getD_mem (0 : Int) hlt2)
              rw [← hj3] at x1
              have hcv := centreV_asg HV.out hj1
              rw [hj2] at hcv
              have hii := hi.below hb
              have hls := hl.below hb
              obtain ⟨x, ex⟩ : ∃ x, ll.getD j It.no = x := ⟨_, rfl⟩
              have IO := Lib.hid (itemOf_any wr _ _ b cap' j ll x hii (csB_store HV.out) hj1 ex)
              rw [ex] at x1 hcv
              have HCV := Lib.hid hcv
              have HLS := Lib.hid hls
              have hki : (k : Int) < row.length := by omega
              clear ex hcv hj2 hj3 hrr hii hls hb
              go_wp2_with fail
              refine IO.out.mono ?_
              rintro e w5 ⟨ai, ci, rfl, hxp, hmk⟩
              have CO := Lib.hid (implCentreOf w5 _ _ _ _ _ _ cap ci cs x.pos (HLS.out.below hmk) (hxp.below hmk))
              rw [HCV.out] at CO
              have HE5 : Hid (Below wo.heap.size wo w5) := Lib.hid (HE.out.trans (hmk.mono HE.out.size))
              have hft := run_at w5 x.key x.tags ai x.pos.length ci
              clear hxp hmk hc0 x1
              go_wp2_with fail
              refine CO.out.mono ?_
              rintro e w6 ⟨rfl, hd⟩
              have HE6 : Hid (Below wo.heap.size wo w6) := Lib.hid (HE5.out.trans hd.below)
              clear hd
              go_wp2_with fail
              go_roundw
              case rel => exact ⟨k + 1, by omega, by go_num, HE6.out⟩
              case measure => simp [intOf]; omega
            · have hke : k = row.length := by omega
              subst hke
              go_wp2_with fail
              go_roundw
              case rel => exact ⟨c + 1, by omega, by go_num, int_eq (by rw [HSS.out]; omega), hb⟩
              case measure => simp [intOf]; omega
        · have hce : c = cs.length := by omega
          subst hce
          rw [HSA.out]
          go_wp2_with fail
          go_ret
          exact ⟨by simp, HB.out.trans (HD.out.mono HB.out.size)⟩
theorem own : ownKnob Try.prog.godebug = none := by kernel_rfl
theorem laidOut : laidOutB Try.prog = true := by kernel_rfl

set_option maxRecDepth 100000 in
theorem lifted (os : Os) (started : os.Started) (H : Type) (enc : TypeId × Value → H) :
    ReturnsInHanded {} Try.checked os 13 .any (Rows.fnListsOfSpec.pre6 enc Try.prog Try.f13 Rows.fnListsOfRow.domain false) (Rows.fnListsOfSpec.post enc Try.prog Try.f13 false true false false) := by
  refine returnsInHanded_of_change (C := Try.checked) own started (by kernel_rfl) Try.func13
    (ChangeSpec.witness6 (enc := enc) (C := Try.checked) false ⟨#[], #[.slice none 0 0], []⟩ 8 (by kernel_rfl) (by kernel_rfl) (by kernel_rfl) (by kernel_rfl)) ?_
  intro W base args ds gs before hval0 hW hcnd _
  have hval : ∀ (j : Nat) t v, Try.f13.params[j]? = some t → args[j]? = some v → Value.okWide Try.prog W .any base t v := hval0
  have hW' := hW
  obtain ⟨p, q, hA0, hV, rfl, hfz, hnd⟩ := hW
  have hA : DataW.TrodAll enc Try.prog W 0 (fun _ => true) true Try.f13.params.toList args.toList ds p := hA0
  rw [Try.params13] at hA hval
  obtain ⟨v0, vs0, d0, ds0, p0, q0, hargs, rfl, rfl, h0, r0⟩ := trodAll_cons hA
  obtain ⟨rfl, rfl, rfl⟩ := trodAll_nil r0
  obtain rfl : args = #[v0] := by cases args; simp_all
  obtain ⟨rfl, rfl⟩ := trodVars_none hV
  obtain ⟨a0, len0, cap0, rfl⟩ := okWide_slice Try.underlying33 (hval 0 33 v0 rfl rfl)
  have k0 := h0
  have lt0 : ∀ x ∈ p0, x.block < W.heap.size := by obtain ⟨m, hm⟩ := k0; exact DataW.trod_lt m _ _ _ hm
  obtain ⟨z0, w0⟩ : ∃ zs, IsRow .u8 W a0 len0 cap0 zs := by
    obtain ⟨fuel, hf⟩ := h0
    rcases open_ints Try.underlying33 Try.underlying5 (by kernel_rfl) hf with ⟨hcs, _⟩ | ⟨x, l, c, zs, hcs, _, hl, hm, hz, _, hcell, hwz⟩
    · simp [Value.cells] at hcs
      obtain ⟨rfl, rfl, rfl⟩ := hcs
      exact ⟨[], .inl ⟨rfl, rfl, rfl, rfl⟩⟩
    · simp [Value.cells] at hcs
      obtain ⟨rfl, rfl, rfl⟩ := hcs
      exact ⟨zs, .inr ⟨_, rfl, hl, hm, by simpa using hz, hcell, hwz⟩⟩
  clear hA0 hval0
  refine (walk a0 len0 cap0 z0 W w0).mono fun e W' ⟨he, bel⟩ => ?_
  subst he
  exact ⟨_, rfl, _, _, _, [], _, [], hW', trodAll_mk1 (shut_bool Try.underlying4 _), (trodAll_cons_mk (Below.trod laidOut (by kernel_rfl) (of_decide_eq_true (by kernel_rfl)) k0 bel lt0) trodAll_mk0), rfl, bel.frame _, fun h => by cases h⟩

theorem over : Rows.fnListsOfRow.holds Try.pinned (OpenSpec.ofChange Rows.fnListsOfSpec) :=
  OpenClaim.holds_of_wide 13 Try.f13 rfl rfl rfl rfl rfl rfl rfl ⟨rfl, rfl, rfl, rfl, rfl⟩ rfl rfl rfl rfl rfl (by kernel_rfl) Try.func13 (by kernel_rfl)
    (of_decide_eq_true (by kernel_rfl)) (by unfold Func.isWrapper; first | (rw [if_pos (by decide +kernel)]; kernel_rfl) | (rw [if_neg (by decide +kernel)]; exact ⟨rfl, rfl⟩))
    (fun os started H enc _ => lifted os started H enc)

/-- THE STATEMENT -/
theorem proved : Rows.FnListsOfSaid :=
  over
#print axioms proved
end Go.Proofs.Ytelcnjdemepmfaa.fnListsOf
