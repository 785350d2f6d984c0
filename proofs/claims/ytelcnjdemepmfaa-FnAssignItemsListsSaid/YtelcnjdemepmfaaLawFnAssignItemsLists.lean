/-
  For all codes: of the centres and the store that the code draws: AssignItems is what the reference says, and the key of each item stands in the list of its centre. No condition.
-/
import Derived.Test.YtelcnjdemepmfaaRows
import Derived.Test.YtelcnjdemepmfaaListsOfWalks
import Derived.Test.YtelcnjdemepmfaaItemOfWalk
import Derived.Test.YtelcnjdemepmfaaClusLaws
import Derived.Test.YtelcnjdemepmfaaDrawStoreTops
import Derived.Test.YtelcnjdemepmfaaEqWalks
import Derived.ProofKit
import Derived.OpenShut
import Derived.ShutString
import Derived.ChangeOld
namespace Go.Proofs.Ytelcnjdemepmfaa.fnAssignItemsLists
open Go.ChangeShapes Go.WideShapes Go.ChangeAt Go.RowKit
set_option linter.unusedVariables false

set_option maxHeartbeats 1000000 in
theorem walk (a0 : Option Addr) (len0 cap0 : Nat) (z0 : List Int) (w : World) (w0 : IsRow .u8 w a0 len0 cap0 z0) :
    Calls Try.prog 11 #[.slice a0 len0 cap0] w fun e w' => e = .returned (.bool true) ∧ Below w.heap.size w w' := by
  by_cases hl : 1048576 < len0
  · clear w0
    go_enter Try.func11, Try.ntmps11
    go_wp2
    go_ret
    exact ⟨rfl, Below.refl _ _⟩
  · have H := Lib.hid (bytes_of_row w0 (by omega))
    clear w0
    go_enter Try.func11, Try.ntmps11
    go_wp2_with fail
    refine (DrawAssignItems_any _ _ _ _ _ H.out).mono ?_
    rintro e w1 ⟨a, b, cap, cap', cs, ll, rfl, ⟨hl, hcap⟩, ⟨hi, hcap2⟩, hq, hb⟩
    have HB := Lib.hid hb
    have hc1 := hcap.1
    have hc2 := hcap.2
    have hc3 := hcap2.1
    have hc4 := hcap2.2
    have hq1 := hq.1
    have hq2 := hq.2
    clear hb hcap hcap2 hq
    go_wp2_with fail

    cases hv : csB cs ll
    · have HN := Lib.hid hv
      refine (implAssignItems_no _ _ _ _ _ _ _ _ _ cs ll hl hi HN.out).mono ?_
      rintro e w2 ⟨rfl, hmk⟩
      replace hl := hl.below hmk
      replace hi := hi.below hmk
      replace HB := Lib.hid (HB.out.trans (hmk.mono HB.out.size))
      clear hmk
      go_wp2_with fail
      refine (specAssignItems_no _ _ _ _ _ _ _ _ _ cs ll hl hi HN.out).mono ?_
      rintro e w3 ⟨rfl, hmk⟩
      replace hl := hl.below hmk
      replace hi := hi.below hmk
      replace HB := Lib.hid (HB.out.trans (hmk.mono HB.out.size))
      clear hmk
      go_wp2_with fail
      refine (equalInts_any w3 0 0 0 0 none none 0 0 [] [] (Ints.nil _ _ _ _) (Ints.nil _ _ _ _)).mono ?_
      rintro e w4 ⟨rfl, hdrw⟩
      replace hl := hl.drawn hdrw
      replace hi := hi.drawn hdrw
      replace HB := Lib.hid (HB.out.trans hdrw.below)
      have HS_w4 := Lib.hid (congrArg Array.size hdrw.heap)
      clear hdrw
      rw [eqL_self]
      go_wp2_with fail
      refine (specAssignItems_no _ _ _ _ _ _ _ _ _ cs ll hl hi HN.out).mono ?_
      rintro e w5 ⟨rfl, hmk⟩
      replace hl := hl.below hmk
      replace hi := hi.below hmk
      replace HB := Lib.hid (HB.out.trans (hmk.mono HB.out.size))
      clear hmk
      go_wp2_with fail
      refine (equalInts_any w5 0 0 0 0 none none 0 0 [] [] (Ints.nil _ _ _ _) (Ints.nil _ _ _ _)).mono ?_
      rintro e w6 ⟨rfl, hdrw⟩
      replace HB := Lib.hid (HB.out.trans hdrw.below)
      have HS_w6 := Lib.hid (congrArg Array.size hdrw.heap)
      clear hdrw
      rw [eqL_self]
      go_wp2_with fail
      go_ret
      exact ⟨rfl, HB.out⟩
    · have HV := Lib.hid hv
      have hl16 := storeB_len (csB_store hv)
      have hlc := (cenB_len (csB_cen hv)).1
      have hlc4 := (cenB_len (csB_cen hv)).2
      have HL := Lib.hid (asgL_length cs ll ll.length)
      clear hv
      refine (implAssignItems_read _ _ _ _ _ _ _ _ _ cs ll hl hi HV.out).mono ?_
      rintro e w2 ⟨g, gcap, rfl, hg, hgc, hmk⟩
      replace hl := hl.below hmk
      replace hi := hi.below hmk
      replace HB := Lib.hid (HB.out.trans (hmk.mono HB.out.size))
      clear hmk
      go_wp2_with fail
      refine (specAssignItems_read _ _ _ _ _ _ _ _ _ cs ll hl hi HV.out).mono ?_
      rintro e w3 ⟨g3, gcap3, rfl, hg3, hgc3, hmk⟩
      replace hl := hl.below hmk
      replace hi := hi.below hmk
      replace hg := hg.below hmk
      replace HB := Lib.hid (HB.out.trans (hmk.mono HB.out.size))
      clear hmk
      go_wp2_with fail
      refine (equalInts_any _ _ _ _ _ _ _ gcap gcap3 _ _ hg hg3).mono ?_
      rintro e w4 ⟨rfl, hdrw⟩
      replace hl := hl.drawn hdrw
      replace hi := hi.drawn hdrw
      replace hg := hg.drawn hdrw
      replace hg3 := hg3.drawn hdrw
      replace HB := Lib.hid (HB.out.trans hdrw.below)
      have HS_w4 := Lib.hid (congrArg Array.size hdrw.heap)
      clear hdrw
      rw [eqL_self, HL.out]
      clear hgc3
      by_cases h0 : ll.length = 0
      · have h0' : ((ll.length : Int) == 0) = true := by rw [beq_iff_eq]; omega
        clear h0
        go_wp2_with fail
        refine (specAssignItems_read _ _ _ _ _ _ _ _ _ cs ll hl hi HV.out).mono ?_
        rintro e w5 ⟨g5, gcap5, rfl, hg5, hgc5, hmk⟩
        replace hl := hl.below hmk
        replace hi := hi.below hmk
        replace hg := hg.below hmk
        replace HB := Lib.hid (HB.out.trans (hmk.mono HB.out.size))
        clear hmk
        have D5 := Lib.hid (equalInts_any w5 _ _ _ _ _ _ gcap gcap5 _ _ hg hg5)
        rw [eqL_self, HL.out] at D5
        rw [HL.out]
        clear hg5 hgc5
        go_wp2_with fail
        refine (D5.out).mono ?_
        rintro e w6 ⟨rfl, hdrw⟩
        replace HB := Lib.hid (HB.out.trans hdrw.below)
        have HS_w6 := Lib.hid (congrArg Array.size hdrw.heap)
        clear hdrw
        go_wp2_with fail
        go_ret
        exact ⟨rfl, HB.out⟩
      · have h0' : ((ll.length : Int) == 0) = false := by rw [beq_eq_false_iff_ne]; omega
        have hl1 : 1 ≤ ll.length := by omega
        clear h0 hg3
        go_wp2_with fail
        refine (implListsOf_read _ _ _ _ _ _ _ _ _ cs ll hl hi).mono ?_
        rintro e w5 ⟨gl, glcap, rfl, hgl, hglc, hmk⟩
        replace hl := hl.below hmk
        replace hi := hi.below hmk
        replace hg := hg.below hmk
        replace HB := Lib.hid (HB.out.trans (hmk.mono HB.out.size))
        clear hmk
        have HLL : Hid ((lstV cs ll).length = cs.length) := Lib.hid (by rw [lstV_yes HV.out, lstT_length])
        have HG : Hid (∀ c, c < cs.length → (lstV cs ll).getD c [] = ownK cs ll c ll.length) := Lib.hid (fun c hc => by rw [lstV_yes HV.out, lstT_get hc])
        obtain ⟨L, eL⟩ : ∃ L, lstV cs ll = L := ⟨_, rfl⟩
        rw [eL] at HLL HG hgl hglc ⊢
        have hll : L.length = cs.length := HLL.out
        clear eL
        go_wp2_with fail
        go_loopw [7] (fun i wr => ∃ k : Nat, k ≤ ll.length ∧ i = .int .i64 (k : Int) ∧ Hid (Drawn w5 wr)) (fun i _ => ll.length - (intOf i).toNat)
        case atStart => exact ⟨0, Nat.zero_le _, rfl, Drawn.refl _⟩
        case round =>
          obtain ⟨k, hk, rfl, HD⟩ := hrel
          by_cases hlt : k < ll.length
          · have hs := hi.drawn HD.out
            have hgr := hg.drawn HD.out
            have hgs := hgl.drawn HD.out
            obtain ⟨bb, off, rfl, _, _, aj, cj, c0, c1, c2, hx, _, _, _⟩ := hs.at_ hlt
            obtain ⟨gb, go, rfl, _, _, hgcell, _⟩ := hgr.at_ (k := k) (by rw [HL.out]; exact hlt)
            rw [asgL_get hlt] at hgcell
            have hn := asg_lt (csB_cen HV.out) ll k
            obtain ⟨lb, lo2, ar, cr, rfl, _, _, hlc0, hrow⟩ := hgs.at_ (k := asg cs ll k) (by omega)
            rw [HG.out _ hn] at hlc0 hrow
            have hin : (ownK cs ll (asg cs ll k) ll.length).contains (ll.getD k It.no).key = true := by
              have := mem_ownK (cs := cs) (ll := ll) hlt
              simpa using this
            obtain ⟨n, en⟩ : ∃ n, asg cs ll k = n := ⟨_, rfl⟩
            rw [en] at hgcell hn hlc0 hrow hin
            obtain ⟨row, er⟩ : ∃ row, ownK cs ll n ll.length = row := ⟨_, rfl⟩
            rw [er] at hlc0 hrow hin
            obtain ⟨x, ex⟩ : ∃ x, ll.getD k It.no = x := ⟨_, rfl⟩
            rw [ex] at c0 c1 c2 hin
            have C := Lib.hid fun q : Nat => calls_drawn (isIn_any (wr.drewN q) _ _ ar cr row x.key (hrow.drawn ⟨q, rfl⟩))
            rw [hin] at C
            have hki : (k : Int) < ll.length := by omega
            have hnd : decide ((n : Int) < 0) = false := decide_eq_false (by omega)
            have hnd2 : decide ((L.length : Int) ≤ (n : Int)) = false := decide_eq_false (by omega)
            have hni : (n : Int) < L.length := by omega
            have hn0 : (0 : Int) ≤ n := by omega
            clear en er ex hs hgr hgs hx hrow hin
            go_wp2_with fail
            go_quiet ((go_at_call 37; exact quiet_drawn (C.out _)))
            clear c0 c1 c2 hgcell hlc0
            go_wp2_with fail
            go_roundw
            case rel => exact ⟨k + 1, by omega, by go_num, HD.out.more _⟩
            case measure => simp [intOf]; omega
          · have hkn : ¬ (k : Int) < ll.length := by omega
            go_wp2_with fail
            go_ret
            exact ⟨rfl, HB.out.trans HD.out.below⟩
theorem own : ownKnob Try.prog.godebug = none := by kernel_rfl
theorem laidOut : laidOutB Try.prog = true := by kernel_rfl

set_option maxRecDepth 100000 in
theorem lifted (os : Os) (started : os.Started) (H : Type) (enc : TypeId × Value → H) :
    ReturnsInHanded {} Try.checked os 11 .any (Rows.fnAssignItemsListsSpec.pre6 enc Try.prog Try.f11 Rows.fnAssignItemsListsRow.domain false) (Rows.fnAssignItemsListsSpec.post enc Try.prog Try.f11 false true false false) := by
  refine returnsInHanded_of_change (C := Try.checked) own started (by kernel_rfl) Try.func11
    (ChangeSpec.witness6 (enc := enc) (C := Try.checked) false ⟨#[], #[.slice none 0 0], []⟩ 8 (by kernel_rfl) (by kernel_rfl) (by kernel_rfl) (by kernel_rfl)) ?_
  intro W base args ds gs before hval0 hW hcnd _
  have hval : ∀ (j : Nat) t v, Try.f11.params[j]? = some t → args[j]? = some v → Value.okWide Try.prog W .any base t v := hval0
  have hW' := hW
  obtain ⟨p, q, hA0, hV, rfl, hfz, hnd⟩ := hW
  have hA : DataW.TrodAll enc Try.prog W 0 (fun _ => true) true Try.f11.params.toList args.toList ds p := hA0
  rw [Try.params11] at hA hval
  obtain ⟨v0, vs0, d0, ds0, p0, q0, hargs, rfl, rfl, h0, r0⟩ := trodAll_cons hA
  obtain ⟨rfl, rfl, rfl⟩ := trodAll_nil r0
  obtain rfl : args = #[v0] := by cases args; simp_all
  obtain ⟨rfl, rfl⟩ := trodVars_none hV
  obtain ⟨a0, len0, cap0, rfl⟩ := okWide_slice Try.underlying33 (hval 0 33 v0 rfl rfl)
  have k0 := h0
  have lt0 : ∀ x ∈ p0, x.block < W.heap.size := by obtain ⟨m, hm⟩ := k0; exact DataW.trod_lt m _ _ _ hm
  obtain ⟨z0, w0⟩ : ∃ zs, IsRow .u8 W a0 len0 cap0 zs := by
    obtain ⟨fuel, hf⟩ := h0
    rcases open_ints Try.underlying33 Try.underlying5 (by kernel_rfl) hf with ⟨hcs, _⟩ | ⟨x, l, c, zs, hcs, _, hl, hm, hz, _, hcell, hwz⟩
    · simp [Value.cells] at hcs
      obtain ⟨rfl, rfl, rfl⟩ := hcs
      exact ⟨[], .inl ⟨rfl, rfl, rfl, rfl⟩⟩
    · simp [Value.cells] at hcs
      obtain ⟨rfl, rfl, rfl⟩ := hcs
      exact ⟨zs, .inr ⟨_, rfl, hl, hm, by simpa using hz, hcell, hwz⟩⟩
  clear hA0 hval0
  refine (walk a0 len0 cap0 z0 W w0).mono fun e W' ⟨he, bel⟩ => ?_
  subst he
  exact ⟨_, rfl, _, _, _, [], _, [], hW', trodAll_mk1 (shut_bool Try.underlying4 _), (trodAll_cons_mk (Below.trod laidOut (by kernel_rfl) (of_decide_eq_true (by kernel_rfl)) k0 bel lt0) trodAll_mk0), rfl, bel.frame _, fun h => by cases h⟩

theorem over : Rows.fnAssignItemsListsRow.holds Try.pinned (OpenSpec.ofChange Rows.fnAssignItemsListsSpec) :=
  OpenClaim.holds_of_wide 11 Try.f11 rfl rfl rfl rfl rfl rfl rfl ⟨rfl, rfl, rfl, rfl, rfl⟩ rfl rfl rfl rfl rfl (by kernel_rfl) Try.func11 (by kernel_rfl)
    (of_decide_eq_true (by kernel_rfl)) (by unfold Func.isWrapper; first | (rw [if_pos (by decide +kernel)]; kernel_rfl) | (rw [if_neg (by decide +kernel)]; exact ⟨rfl, rfl⟩))
    (fun os started H enc _ => lifted os started H enc)

/-- THE STATEMENT -/
theorem proved : Rows.FnAssignItemsListsSaid :=
  over
#print axioms proved
end Go.Proofs.Ytelcnjdemepmfaa.fnAssignItemsLists
