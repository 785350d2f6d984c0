/-
  For all codes: of the centres and the store that the code draws: MoveCentres is what the reference says; one centre moves into the middle of all items, and what moves stays valid. No condition.
-/
import Derived.Test.YtfgjmfnbpbanmaaRows
import Derived.Test.YtfgjmfnbpbanmaaMoveTops
import Derived.Test.YtfgjmfnbpbanmaaDrawStoreTops
import Derived.Test.YtfgjmfnbpbanmaaEqWalks
import Derived.Test.YtfgjmfnbpbanmaaVecTops
import Derived.ProofKit
import Derived.OpenShut
import Derived.ShutString
import Derived.ChangeOld
namespace Go.Proofs.Ytfgjmfnbpbanmaa.fnMoveCentres
open Go.ChangeShapes Go.WideShapes Go.ChangeAt Go.RowKit
set_option linter.unusedVariables false

set_option maxHeartbeats 1000000 in
theorem walk (a0 : Option Addr) (len0 cap0 : Nat) (z0 : List Int) (w : World) (w0 : IsRow .u8 w a0 len0 cap0 z0) :
    Calls Try.prog 4 #[.slice a0 len0 cap0] w fun e w' => e = .returned (.bool true) ∧ Below w.heap.size w w' := by
  by_cases hl : 1048576 < len0
  · clear w0
    go_enter Try.func4, Try.ntmps4
    go_wp2
    go_ret
    exact ⟨rfl, Below.refl _ _⟩
  · have H := Lib.hid (bytes_of_row w0 (by omega))
    clear w0
    go_enter Try.func4, Try.ntmps4
    go_wp2_with fail
    refine (DrawMoveCentres_any _ _ _ _ _ H.out).mono ?_
    rintro e w1 ⟨a, b, cap, cap', cs, ll, rfl, ⟨hl, hcap⟩, ⟨hi, hcap2⟩, hq, hb⟩
    have HB := Lib.hid hb
    have hc1 := hcap.1
    have hc2 := hcap.2
    have hc3 := hcap2.1
    have hc4 := hcap2.2
    have hq1 := hq.1
    have hq2 := hq.2
    clear hb hcap hcap2 hq
    go_wp2_with fail

    refine (implMoveCentres_read _ _ _ _ _ _ _ _ _ cs ll hl hi).mono ?_
    rintro e w2 ⟨g, gcap, rfl, hg, hgc, hmk⟩
    replace hl := hl.below hmk
    replace hi := hi.below hmk
    replace HB := Lib.hid (HB.out.trans (hmk.mono HB.out.size))
    have HS_w2 := Lib.hid hmk.size
    clear hmk
    go_wp2_with fail
    refine (specMoveCentres_read _ _ _ _ _ _ _ _ _ cs ll hl hi).mono ?_
    rintro e w3 ⟨g3, gcap3, rfl, hg3, hgc3, hmk⟩
    replace hl := hl.below hmk
    replace hi := hi.below hmk
    replace hg := hg.below hmk
    replace HB := Lib.hid (HB.out.trans (hmk.mono HB.out.size))
    have HS_w3 := Lib.hid hmk.size
    clear hmk
    go_wp2_with fail
    refine (equalLists_any _ _ _ _ _ _ _ gcap gcap3 _ _ hg hg3).mono ?_
    rintro e w4 ⟨rfl, hdrw⟩
    replace hl := hl.drawn hdrw
    replace hi := hi.drawn hdrw
    replace hg := hg.drawn hdrw
    replace hg3 := hg3.drawn hdrw
    replace HB := Lib.hid (HB.out.trans hdrw.below)
    have HS_w4 := Lib.hid (congrArg Array.size hdrw.heap)
    clear hdrw
    rw [eqLL_self]
    clear hg3 hgc3
    cases hv : csB cs ll
    · have hz : (((movV cs ll).length : Int) == 0) = true := by rw [movV_no hv]; rfl
      go_wp2_with fail
      refine (specMoveCentres_read _ _ _ _ _ _ _ _ _ cs ll hl hi).mono ?_
      rintro e w5 ⟨g5, gcap5, rfl, hg5, hgc5, hmk⟩
      replace hl := hl.below hmk
      replace hi := hi.below hmk
      replace hg := hg.below hmk
      replace HB := Lib.hid (HB.out.trans (hmk.mono HB.out.size))
      clear hmk
      go_wp2_with fail
      refine (equalLists_any _ _ _ _ _ _ _ gcap gcap5 _ _ hg hg5).mono ?_
      rintro e w6 ⟨rfl, hdrw⟩
      replace HB := Lib.hid (HB.out.trans hdrw.below)
      have HS_w6 := Lib.hid (congrArg Array.size hdrw.heap)
      clear hdrw
      rw [eqLL_self]
      go_wp2_with fail
      go_ret
      exact ⟨rfl, HB.out⟩
    · have HV := Lib.hid hv
      have hl16 := storeB_len (csB_store hv)
      have hlc := (cenB_len (csB_cen hv)).1
      have hlc4 := (cenB_len (csB_cen hv)).2
      have HLL : Hid ((movV cs ll).length = cs.length) := Lib.hid (by rw [movV_yes hv, movT_length])
      have hz : (((movV cs ll).length : Int) == 0) = false := by rw [beq_eq_false_iff_ne, HLL.out]; omega
      have HCN : Hid (cenB (movV cs ll) 4 = true) := Lib.hid (by rw [movV_yes hv]; exact movT_cen hv)
      have HNO : Hid (ll.length = 0 → movV cs ll = cs) := Lib.hid (movV_none hv)
      have HO1 := Lib.hid (movV_one hv)
      have T := hl.take 1
      obtain ⟨L, eL⟩ : ∃ L, movV cs ll = L := ⟨_, rfl⟩
      rw [eL] at HLL hg hgc hz HCN HNO ⊢
      clear eL hv
      rw [HLL.out] at hgc hz ⊢
      obtain ⟨p, off, rfl⟩ := hl.addr hlc
      have e1 : (cs.take 1).length = 1 := by simp; omega
      have HE1 := Lib.hid e1
      have hcp1 : 1 ≤ cap := by omega
      have hcp2 : (1 : Int) ≤ (cap : Int) := by omega
      have C1 := Lib.hid (implMoveCentres_read w4 _ _ _ _ _ _ cap cap' (cs.take 1) ll T hi)
      rw [e1] at C1
      have HL1 : Hid ((movV (cs.take 1) ll).length = 1) := Lib.hid (by rw [HO1.out]; split; exact HE1.out; rfl)
      clear e1 T
      go_wp2_with fail
      clear hz
      refine (C1.out).mono ?_
      rintro e w5 ⟨g5, gcap5, rfl, hg5, hgc5, hmk⟩
      replace hl := hl.below hmk
      replace hi := hi.below hmk
      replace hg := hg.below hmk
      replace HB := Lib.hid (HB.out.trans (hmk.mono HB.out.size))
      have HS_w5 := Lib.hid hmk.size
      clear hmk
      rw [HL1.out]
      clear hgc5
      have HE := Lib.hid (owns_empty w5 w5.heap.size 37 1 (Nat.le_refl _))
      have HS5 : Hid (w1.heap.size ≤ w5.heap.size) := Lib.hid (by have h2 := HS_w2.out; have h3 := HS_w3.out; have h4 := HS_w4.out; have h5 := HS_w5.out; omega)
      go_wp2_with fail
      go_loopw [7, 8] (fun v i wr => ∃ (k : Nat) (vs : List Value), k ≤ ll.length ∧ i = .int .i64 (k : Int) ∧ Hid (wr.ownsRow w5.heap.size 37 1 v k vs) ∧ Hid (RwsR wr 0 w1.heap.size vs (posL ll k)) ∧ Hid (Below w5.heap.size w5 wr)) (fun _ i _ => ll.length - (intOf i).toNat)
      case atStart => exact ⟨0, [], Nat.zero_le _, rfl, HE.out, ⟨rfl, fun j hj => by simp [posL] at hj⟩, below_alloc _ _⟩
      case round =>
        obtain ⟨k, vs, hk, rfl, HW, HR, HD⟩ := hrel
        by_cases hlt : k < ll.length
        · have hs := hi.below HD.out
          obtain ⟨bb, off, rfl, _, _, aj, cj, c0, c1, c2, hx, hcj, _, _⟩ := hs.at_ hlt
          have HX := Lib.hid hx
          have hvl := Lib.hid HR.out.1
          have HPS := Lib.hid (posL_succ ll k)
          obtain ⟨x, ex⟩ : ∃ x, (ll.getD k It.no).pos = x := ⟨_, rfl⟩
          rw [ex] at c1 HX HPS
          have hsr := HD.out.size
          have hsw := HB.out.size
          have h13 : w1.heap.size ≤ w5.heap.size := HS5.out
          clear ex hs hx
          go_wp2_with (at_builtin; refine append1 rfl _ _ 22 rfl w5.heap.size 37 Try.underlying22 infoInts rfl (by omega) (by omega) _ k vs rfl HW.out [.slice aj x.length cj] rfl rfl (by intro u hu; simp at hu; subst hu; rfl) (by omega) (by omega) ?_; intro v' w6 hown6 hg6; have HO6 := Lib.hid hown6; have HG6 := Lib.hid hg6; clear hown6 hg6)
          have hbk := owns_block HW.out
          have B4 : Below w5.heap.size wr w6 := (Below.refl _ _).grown HG6.out (by omega) hbk
          have U4 : Upd w5.heap.size w6.heap.size wr w6 := ⟨B4.os, B4.tape, B4.output, HG6.out.size, fun j hj hd => by rcases hd with hd | hd; exact B4.block j hd; have := HG6.out.size; omega⟩
          go_roundw
          case rel => exact ⟨k + 1, vs ++ [.slice aj x.length cj], by omega, by go_num, HO6, Lib.hid (by rw [HPS.out]; exact (HR.out.upd U4 (by omega)).snoc (HX.out.upd U4 (by omega))), Lib.hid (HD.out.trans B4)⟩
          case measure => simp [intOf]; omega
        · have hke : k = ll.length := by omega
          subst hke
          have hlw := hl.below HD.out
          have hgw := hg.below HD.out
          have h5w := hg5.below HD.out
          have HB6 : Hid (Below w.heap.size w wr) := Lib.hid (HB.out.trans (HD.out.mono HB.out.size))
          by_cases h0 : ll.length = 0
          · obtain ⟨a5, cap5, rfl, _⟩ := owns_form HW.out
            have h0' : ((ll.length : Int) == 0) = true := by rw [beq_iff_eq]; omega
            have HO2 : Hid (movV (cs.take 1) ll = cs.take 1) := Lib.hid (by rw [HO1.out, if_pos h0])
            have HLC := Lib.hid (HNO.out h0)
            rw [HO2.out] at h5w
            have D1 := Lib.hid (equalLists_any wr _ _ _ _ _ _ gcap5 cap _ _ h5w (hlw.take 1))
            rw [eqLL_self, HE1.out] at D1
            rw [HLC.out] at hgw
            have HGW := Lib.hid hgw
            have HLW := Lib.hid hlw
            clear h5w hgw hlw h0
            go_wp2_with fail
            refine D1.out.mono ?_
            rintro e w6 ⟨rfl, hd⟩
            have D2 := Lib.hid (equalLists_any w6 _ _ _ _ _ _ gcap cap _ _ (HGW.out.drawn hd) (HLW.out.drawn hd))
            rw [eqLL_self] at D2
            have HB7 : Hid (Below w.heap.size w w6) := Lib.hid (HB6.out.trans hd.below)
            clear hd
            go_wp2_with fail
            refine D2.out.mono ?_
            rintro e w7 ⟨rfl, hd⟩
            have HB8 : Hid (Below w.heap.size w w7) := Lib.hid (HB7.out.trans hd.below)
            clear hd
            go_wp2_with fail
            go_ret
            exact ⟨rfl, HB8.out⟩
          · have h0' : ((ll.length : Int) == 0) = false := by rw [beq_eq_false_iff_ne]; omega
            have HO2 : Hid (movV (cs.take 1) ll = [meanT (posL ll ll.length) 4]) := Lib.hid (by rw [HO1.out, if_neg h0])
            obtain ⟨a5, cap5, hv5, hl5⟩ := lists_of_vals (ll := posL ll ll.length) (hi := wr.heap.size) (lo := 0) (by rw [posL_length]; exact HW.out) (HR.out.wide (Nat.le_refl _) (by have h1 := HD.out.size; have h2 : w1.heap.size ≤ w5.heap.size := HS5.out; omega)) (by rw [posL_length]; omega) (Nat.zero_le _) (Nat.le_refl _)
            have C5 := Lib.hid (implMeanOf wr _ _ _ cap5 (posL ll ll.length) hl5 (posL_vecs (csB_store HV.out) (Nat.le_refl _)) (by rw [posL_length]; omega) (by rw [posL_length]; omega))
            rw [posL_length] at C5
            rw [posL_length] at hv5
            subst hv5
            have HMV := Lib.hid (meanT_vec (posL_vecs (csB_store HV.out) (Nat.le_refl ll.length)) (by rw [posL_length]; omega))
            rw [HO2.out] at h5w
            obtain ⟨m, em⟩ : ∃ m, meanT (posL ll ll.length) 4 = m := ⟨_, rfl⟩
            rw [em] at C5 h5w HMV
            have H5W := Lib.hid h5w
            have HGW := Lib.hid hgw
            clear h5w hgw hlw hl5 em h0
            go_wp2_with fail
            refine C5.out.mono ?_
            rintro e w6 ⟨am, cm, rfl, hom, hbm⟩
            obtain ⟨am', cm', hvm, hxm⟩ := ints_of_owns hom (fun x hx => by have := coordsB_ok (vecB_coords HMV.out) x hx; omega) (by have := vecB_len HMV.out; omega)
            simp only [Value.slice.injEq] at hvm
            obtain ⟨rfl, _, rfl⟩ := hvm
            have HSA : Hid (Below w6.heap.size w6 (w6.alloc (.cells #[.slice am m.length cm] 37))) := Lib.hid (below_alloc _ _)
            have h6w := (H5W.out.below hbm).below HSA.out
            have hgw6 := (HGW.out.below hbm).below HSA.out
            have D1 := Lib.hid (equalLists_any _ _ _ _ _ _ _ gcap5 1 _ _ h6w (lists_one (c := cm) hxm))
            rw [eqLL_self, show [m].length = 1 from rfl] at D1
            have HB7 : Hid (Below w.heap.size w (w6.alloc (.cells #[.slice am m.length cm] 37))) := Lib.hid ((HB6.out.trans (hbm.mono HB6.out.size)).trans (HSA.out.mono ((HB6.out.trans (hbm.mono HB6.out.size)).size)))
            have HGX := Lib.hid hgw6
            clear hom hbm hxm h6w hgw6 HSA
            go_wp2_with fail
            refine D1.out.mono ?_
            rintro e w7 ⟨rfl, hd⟩
            have VC := Lib.hid (implValidCentres w7 _ _ _ gcap L (HGX.out.drawn hd))
            rw [HCN.out, HLL.out] at VC
            have HB8 : Hid (Below w.heap.size w w7) := Lib.hid (HB7.out.trans hd.below)
            clear hd
            go_wp2_with fail
            refine VC.out.mono ?_
            rintro e w8 ⟨rfl, rfl⟩
            go_wp2_with fail
            go_ret
            exact ⟨by simp, HB8.out⟩
theorem own : ownKnob Try.prog.godebug = none := by kernel_rfl
theorem laidOut : laidOutB Try.prog = true := by kernel_rfl

set_option maxRecDepth 100000 in
theorem lifted (os : Os) (started : os.Started) (H : Type) (enc : TypeId × Value → H) :
    ReturnsInHanded {} Try.checked os 4 .any (Rows.fnMoveCentresSpec.pre6 enc Try.prog Try.f4 Rows.fnMoveCentresRow.domain false) (Rows.fnMoveCentresSpec.post enc Try.prog Try.f4 false true false false) := by
  refine returnsInHanded_of_change (C := Try.checked) own started (by kernel_rfl) Try.func4
    (ChangeSpec.witness6 (enc := enc) (C := Try.checked) false ⟨#[], #[.slice none 0 0], []⟩ 8 (by kernel_rfl) (by kernel_rfl) (by kernel_rfl) (by kernel_rfl)) ?_
  intro W base args ds gs before hval0 hW hcnd _
  have hval : ∀ (j : Nat) t v, Try.f4.params[j]? = some t → args[j]? = some v → Value.okWide Try.prog W .any base t v := hval0
  have hW' := hW
  obtain ⟨p, q, hA0, hV, rfl, hfz, hnd⟩ := hW
  have hA : DataW.TrodAll enc Try.prog W 0 (fun _ => true) true Try.f4.params.toList args.toList ds p := hA0
  rw [Try.params4] at hA hval
  obtain ⟨v0, vs0, d0, ds0, p0, q0, hargs, rfl, rfl, h0, r0⟩ := trodAll_cons hA
  obtain ⟨rfl, rfl, rfl⟩ := trodAll_nil r0
  obtain rfl : args = #[v0] := by cases args; simp_all
  obtain ⟨rfl, rfl⟩ := trodVars_none hV
  obtain ⟨a0, len0, cap0, rfl⟩ := okWide_slice Try.underlying34 (hval 0 34 v0 rfl rfl)
  have k0 := h0
  have lt0 : ∀ x ∈ p0, x.block < W.heap.size := by obtain ⟨m, hm⟩ := k0; exact DataW.trod_lt m _ _ _ hm
  obtain ⟨z0, w0⟩ : ∃ zs, IsRow .u8 W a0 len0 cap0 zs := by
    obtain ⟨fuel, hf⟩ := h0
    rcases open_ints Try.underlying34 Try.underlying5 (by kernel_rfl) hf with ⟨hcs, _⟩ | ⟨x, l, c, zs, hcs, _, hl, hm, hz, _, hcell, hwz⟩
    · simp [Value.cells] at hcs
      obtain ⟨rfl, rfl, rfl⟩ := hcs
      exact ⟨[], .inl ⟨rfl, rfl, rfl, rfl⟩⟩
    · simp [Value.cells] at hcs
      obtain ⟨rfl, rfl, rfl⟩ := hcs
      exact ⟨zs, .inr ⟨_, rfl, hl, hm, by simpa using hz, hcell, hwz⟩⟩
  clear hA0 hval0
  refine (walk a0 len0 cap0 z0 W w0).mono fun e W' ⟨he, bel⟩ => ?_
  subst he
  exact ⟨_, rfl, _, _, _, [], _, [], hW', trodAll_mk1 (shut_bool Try.underlying4 _), (trodAll_cons_mk (Below.trod laidOut (by kernel_rfl) (of_decide_eq_true (by kernel_rfl)) k0 bel lt0) trodAll_mk0), rfl, bel.frame _, fun h => by cases h⟩

theorem over : Rows.fnMoveCentresRow.holds Try.pinned (OpenSpec.ofChange Rows.fnMoveCentresSpec) :=
  OpenClaim.holds_of_wide 4 Try.f4 rfl rfl rfl rfl rfl rfl rfl ⟨rfl, rfl, rfl, rfl, rfl⟩ rfl rfl rfl rfl rfl (by kernel_rfl) Try.func4 (by kernel_rfl)
    (of_decide_eq_true (by kernel_rfl)) (by unfold Func.isWrapper; first | (rw [if_pos (by decide +kernel)]; kernel_rfl) | (rw [if_neg (by decide +kernel)]; exact ⟨rfl, rfl⟩))
    (fun os started H enc _ => lifted os started H enc)

/-- THE STATEMENT -/
theorem proved : Rows.FnMoveCentresSaid :=
  over
#print axioms proved
end Go.Proofs.Ytfgjmfnbpbanmaa.fnMoveCentres
