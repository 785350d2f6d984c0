/-
  For all codes: of the centres and the store that the code draws: MoveCentres is what the reference says, and a centre without items stays. No condition.
-/
import Derived.Test.YtfgjmfnbpbanmaaRows
import Derived.Test.YtfgjmfnbpbanmaaMoveTops
import Derived.Test.YtfgjmfnbpbanmaaItemOfWalk
import Derived.Test.YtfgjmfnbpbanmaaDrawStoreTops
import Derived.Test.YtfgjmfnbpbanmaaEqWalks
import Derived.ProofKit
import Derived.OpenShut
import Derived.ShutString
import Derived.ChangeOld
namespace Go.Proofs.Ytfgjmfnbpbanmaa.fnMoveCentresAlone
open Go.ChangeShapes Go.WideShapes Go.ChangeAt Go.RowKit
set_option linter.unusedVariables false

set_option maxHeartbeats 1000000 in
theorem walk (a0 : Option Addr) (len0 cap0 : Nat) (z0 : List Int) (w : World) (w0 : IsRow .u8 w a0 len0 cap0 z0) :
    Calls Try.prog 5 #[.slice a0 len0 cap0] w fun e w' => e = .returned (.bool true) ∧ Below w.heap.size w w' := by
  by_cases hl : 1048576 < len0
  · clear w0
    go_enter Try.func5, Try.ntmps5
    go_wp2
    go_ret
    exact ⟨rfl, Below.refl _ _⟩
  · have H := Lib.hid (bytes_of_row w0 (by omega))
    clear w0
    go_enter Try.func5, Try.ntmps5
    go_wp2_with fail
    refine (DrawMoveCentres_any _ _ _ _ _ H.out).mono ?_
    rintro e w1 ⟨a, b, cap, cap', cs, ll, rfl, ⟨hl, hcap⟩, ⟨hi, hcap2⟩, hq, hb⟩
    have HB := Lib.hid hb
    have hc1 := hcap.1
    have hc2 := hcap.2
    have hc3 := hcap2.1
    have hc4 := hcap2.2
    have hq1 := hq.1
    have hq2 := hq.2
    clear hb hcap hcap2 hq
    go_wp2_with fail

    refine (implMoveCentres_read _ _ _ _ _ _ _ _ _ cs ll hl hi).mono ?_
    rintro e w2 ⟨g, gcap, rfl, hg, hgc, hmk⟩
    replace hl := hl.below hmk
    replace hi := hi.below hmk
    replace HB := Lib.hid (HB.out.trans (hmk.mono HB.out.size))
    have HS_w2 := Lib.hid hmk.size
    clear hmk
    go_wp2_with fail
    refine (specMoveCentres_read _ _ _ _ _ _ _ _ _ cs ll hl hi).mono ?_
    rintro e w3 ⟨g3, gcap3, rfl, hg3, hgc3, hmk⟩
    replace hl := hl.below hmk
    replace hi := hi.below hmk
    replace hg := hg.below hmk
    replace HB := Lib.hid (HB.out.trans (hmk.mono HB.out.size))
    have HS_w3 := Lib.hid hmk.size
    clear hmk
    go_wp2_with fail
    refine (equalLists_any _ _ _ _ _ _ _ gcap gcap3 _ _ hg hg3).mono ?_
    rintro e w4 ⟨rfl, hdrw⟩
    replace hl := hl.drawn hdrw
    replace hi := hi.drawn hdrw
    replace hg := hg.drawn hdrw
    replace hg3 := hg3.drawn hdrw
    replace HB := Lib.hid (HB.out.trans hdrw.below)
    have HS_w4 := Lib.hid (congrArg Array.size hdrw.heap)
    clear hdrw
    rw [eqLL_self]
    clear hg3 hgc3
    cases hv : csB cs ll
    · have hz : (((movV cs ll).length : Int) == 0) = true := by rw [movV_no hv]; rfl
      go_wp2_with fail
      refine (specMoveCentres_read _ _ _ _ _ _ _ _ _ cs ll hl hi).mono ?_
      rintro e w5 ⟨g5, gcap5, rfl, hg5, hgc5, hmk⟩
      replace hl := hl.below hmk
      replace hi := hi.below hmk
      replace hg := hg.below hmk
      replace HB := Lib.hid (HB.out.trans (hmk.mono HB.out.size))
      clear hmk
      go_wp2_with fail
      refine (equalLists_any _ _ _ _ _ _ _ gcap gcap5 _ _ hg hg5).mono ?_
      rintro e w6 ⟨rfl, hdrw⟩
      replace HB := Lib.hid (HB.out.trans hdrw.below)
      have HS_w6 := Lib.hid (congrArg Array.size hdrw.heap)
      clear hdrw
      rw [eqLL_self]
      go_wp2_with fail
      go_ret
      exact ⟨rfl, HB.out⟩
    · have HV := Lib.hid hv
      have hl16 := storeB_len (csB_store hv)
      have hlc := (cenB_len (csB_cen hv)).1
      have hlc4 := (cenB_len (csB_cen hv)).2
      have HLL : Hid ((movV cs ll).length = cs.length) := Lib.hid (by rw [movV_yes hv, movT_length])
      have hz : (((movV cs ll).length : Int) == 0) = false := by rw [beq_eq_false_iff_ne, HLL.out]; omega
      have HG : Hid (∀ c, c < cs.length → (asgL cs ll ll.length).contains (c : Int) = false → (movV cs ll).getD c [] = cs.getD c []) := Lib.hid (fun c hc h => movV_alone hv hc h)
      obtain ⟨L, eL⟩ : ∃ L, movV cs ll = L := ⟨_, rfl⟩
      rw [eL] at HLL HG hg hgc hz ⊢
      clear eL hv
      rw [HLL.out] at hgc hz ⊢
      go_wp2_with fail
      clear hz
      refine (implAssignItems_read _ _ _ _ _ _ _ _ _ cs ll hl hi HV.out).mono ?_
      rintro e w5 ⟨go, gocap, rfl, hgo, hgoc, hmk⟩
      replace hl := hl.below hmk
      replace hi := hi.below hmk
      replace hg := hg.below hmk
      replace HB := Lib.hid (HB.out.trans (hmk.mono HB.out.size))
      clear hmk
      have HL := Lib.hid (asgL_length cs ll ll.length)
      obtain ⟨O, eO⟩ : ∃ O, asgL cs ll ll.length = O := ⟨_, rfl⟩
      rw [eO] at HL hgo hgoc HG ⊢
      clear eO
      go_wp2_with fail
      go_loopw [7] (fun i wr => ∃ c : Nat, c ≤ cs.length ∧ i = .int .i64 (c : Int) ∧ Hid (Drawn w5 wr)) (fun i _ => cs.length - (intOf i).toNat)
      case atStart => exact ⟨0, Nat.zero_le _, rfl, Drawn.refl _⟩
      case round =>
        obtain ⟨c, hc, rfl, HD⟩ := hrel
        by_cases hlt : c < cs.length
        · have hls := hl.drawn HD.out
          have hgr := hg.drawn HD.out
          have hgs := hgo.drawn HD.out
          obtain ⟨pb, po, ac, cc, rfl, _, _, hc0, hcx⟩ := hls.at_ hlt
          obtain ⟨gb, go2, ag, cg, rfl, _, _, hg0, hgx⟩ := hgr.at_ (k := c) (by rw [HLL.out]; exact hlt)
          have HGC := Lib.hid (HG.out c hlt)
          have CI := Lib.hid fun q : Nat => calls_drawn (isIn_any (wr.drewN q) _ _ go gocap O (c : Int) (hgs.drawn ⟨q, rfl⟩))
          have CE := Lib.hid fun q : Nat => equalInts_any (wr.drewN q) _ _ _ _ _ _ cg cc _ _ (hgx.drawn ⟨q, rfl⟩) (hcx.drawn ⟨q, rfl⟩)
          have hci : (c : Int) < cs.length := by omega
          have hcd : decide ((cs.length : Int) ≤ (c : Int)) = false := decide_eq_false (by omega)
          clear hls hgr hgs hcx hgx
          cases hin : O.contains (c : Int)
          · have HE := Lib.hid (HGC.out hin)
            rw [hin] at CI
            rw [HE.out] at CE hg0
            rw [eqL_self] at CE
            obtain ⟨y, ey⟩ : ∃ y, cs.getD c [] = y := ⟨_, rfl⟩
            rw [ey] at CE hg0 hc0
            clear hin ey HE HGC
            go_wp2_with fail
            go_quiet ((first | (go_at_call 25; exact quiet_drawn (CI.out _)) | (go_at_call 26; exact quiet_drawn (CE.out _))))
            clear hc0 hg0
            go_wp2_with fail
            go_roundw
            case rel => exact ⟨c + 1, by omega, by go_num, HD.out.more _⟩
            case measure => simp [intOf]; omega
          · rw [hin] at CI
            clear hin CE HGC
            go_wp2_with fail
            go_quiet ((go_at_call 25; exact quiet_drawn (CI.out _)))
            clear hc0 hg0
            go_wp2_with fail
            go_roundw
            case rel => exact ⟨c + 1, by omega, by go_num, HD.out.more _⟩
            case measure => simp [intOf]; omega
        · go_wp2_with fail
          go_ret
          exact ⟨rfl, HB.out.trans HD.out.below⟩
theorem own : ownKnob Try.prog.godebug = none := by kernel_rfl
theorem laidOut : laidOutB Try.prog = true := by kernel_rfl

set_option maxRecDepth 100000 in
theorem lifted (os : Os) (started : os.Started) (H : Type) (enc : TypeId × Value → H) :
    ReturnsInHanded {} Try.checked os 5 .any (Rows.fnMoveCentresAloneSpec.pre6 enc Try.prog Try.f5 Rows.fnMoveCentresAloneRow.domain false) (Rows.fnMoveCentresAloneSpec.post enc Try.prog Try.f5 false true false false) := by
  refine returnsInHanded_of_change (C := Try.checked) own started (by kernel_rfl) Try.func5
    (ChangeSpec.witness6 (enc := enc) (C := Try.checked) false ⟨#[], #[.slice none 0 0], []⟩ 8 (by kernel_rfl) (by kernel_rfl) (by kernel_rfl) (by kernel_rfl)) ?_
  intro W base args ds gs before hval0 hW hcnd _
  have hval : ∀ (j : Nat) t v, Try.f5.params[j]? = some t → args[j]? = some v → Value.okWide Try.prog W .any base t v := hval0
  have hW' := hW
  obtain ⟨p, q, hA0, hV, rfl, hfz, hnd⟩ := hW
  have hA : DataW.TrodAll enc Try.prog W 0 (fun _ => true) true Try.f5.params.toList args.toList ds p := hA0
  rw [Try.params5] at hA hval
  obtain ⟨v0, vs0, d0, ds0, p0, q0, hargs, rfl, rfl, h0, r0⟩ := trodAll_cons hA
  obtain ⟨rfl, rfl, rfl⟩ := trodAll_nil r0
  obtain rfl : args = #[v0] := by cases args; simp_all
  obtain ⟨rfl, rfl⟩ := trodVars_none hV
  obtain ⟨a0, len0, cap0, rfl⟩ := okWide_slice Try.underlying34 (hval 0 34 v0 rfl rfl)
  have k0 := h0
  have lt0 : ∀ x ∈ p0, x.block < W.heap.size := by obtain ⟨m, hm⟩ := k0; exact DataW.trod_lt m _ _ _ hm
  obtain ⟨z0, w0⟩ : ∃ zs, IsRow .u8 W a0 len0 cap0 zs := by
    obtain ⟨fuel, hf⟩ := h0
    rcases open_ints Try.underlying34 Try.underlying5 (by kernel_rfl) hf with ⟨hcs, _⟩ | ⟨x, l, c, zs, hcs, _, hl, hm, hz, _, hcell, hwz⟩
    · simp [Value.cells] at hcs
      obtain ⟨rfl, rfl, rfl⟩ := hcs
      exact ⟨[], .inl ⟨rfl, rfl, rfl, rfl⟩⟩
    · simp [Value.cells] at hcs
      obtain ⟨rfl, rfl, rfl⟩ := hcs
      exact ⟨zs, .inr ⟨_, rfl, hl, hm, by simpa using hz, hcell, hwz⟩⟩
  clear hA0 hval0
  refine (walk a0 len0 cap0 z0 W w0).mono fun e W' ⟨he, bel⟩ => ?_
  subst he
  exact ⟨_, rfl, _, _, _, [], _, [], hW', trodAll_mk1 (shut_bool Try.underlying4 _), (trodAll_cons_mk (Below.trod laidOut (by kernel_rfl) (of_decide_eq_true (by kernel_rfl)) k0 bel lt0) trodAll_mk0), rfl, bel.frame _, fun h => by cases h⟩

theorem over : Rows.fnMoveCentresAloneRow.holds Try.pinned (OpenSpec.ofChange Rows.fnMoveCentresAloneSpec) :=
  OpenClaim.holds_of_wide 5 Try.f5 rfl rfl rfl rfl rfl rfl rfl ⟨rfl, rfl, rfl, rfl, rfl⟩ rfl rfl rfl rfl rfl (by kernel_rfl) Try.func5 (by kernel_rfl)
    (of_decide_eq_true (by kernel_rfl)) (by unfold Func.isWrapper; first | (rw [if_pos (by decide +kernel)]; kernel_rfl) | (rw [if_neg (by decide +kernel)]; exact ⟨rfl, rfl⟩))
    (fun os started H enc _ => lifted os started H enc)

/-- THE STATEMENT -/
theorem proved : Rows.FnMoveCentresAloneSaid :=
  over
#print axioms proved
end Go.Proofs.Ytfgjmfnbpbanmaa.fnMoveCentresAlone
