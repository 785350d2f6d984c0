/-
  For all codes: of the centres and the store that the code draws: ListsOf is what the reference says, and the keys of each list ascend. No condition.
-/
import Derived.Test.YtelcnjdemepmfaaRows
import Derived.Test.YtelcnjdemepmfaaListsOfWalks
import Derived.Test.YtelcnjdemepmfaaDrawStoreTops
import Derived.Test.YtelcnjdemepmfaaEqWalks
import Derived.ProofKit
import Derived.OpenShut
import Derived.ShutString
import Derived.ChangeOld
namespace Go.Proofs.Ytelcnjdemepmfaa.fnListsOfOrder
open Go.ChangeShapes Go.WideShapes Go.ChangeAt Go.RowKit
set_option linter.unusedVariables false

set_option maxHeartbeats 1000000 in
theorem walk (a0 : Option Addr) (len0 cap0 : Nat) (z0 : List Int) (w : World) (w0 : IsRow .u8 w a0 len0 cap0 z0) :
    Calls Try.prog 12 #[.slice a0 len0 cap0] w fun e w' => e = .returned (.bool true) ∧ Below w.heap.size w w' := by
  by_cases hl : 1048576 < len0
  · clear w0
    go_enter Try.func12, Try.ntmps12
    go_wp2
    go_ret
    exact ⟨rfl, Below.refl _ _⟩
  · have H := Lib.hid (bytes_of_row w0 (by omega))
    clear w0
    go_enter Try.func12, Try.ntmps12
    go_wp2_with fail
    refine (DrawListsOf_any _ _ _ _ _ H.out).mono ?_
    rintro e w1 ⟨a, b, cap, cap', cs, ll, rfl, ⟨hl, hcap⟩, ⟨hi, hcap2⟩, hq, hb⟩
    have HB := Lib.hid hb
    have hc1 := hcap.1
    have hc2 := hcap.2
    have hc3 := hcap2.1
    have hc4 := hcap2.2
    have hq1 := hq.1
    have hq2 := hq.2
    clear hb hcap hcap2 hq
    go_wp2_with fail

    refine (implListsOf_read _ _ _ _ _ _ _ _ _ cs ll hl hi).mono ?_
    rintro e w2 ⟨g, gcap, rfl, hg, hgc, hmk⟩
    replace hl := hl.below hmk
    replace hi := hi.below hmk
    replace HB := Lib.hid (HB.out.trans (hmk.mono HB.out.size))
    clear hmk
    go_wp2_with fail
    refine (specListsOf_read _ _ _ _ _ _ _ _ _ cs ll hl hi).mono ?_
    rintro e w3 ⟨g3, gcap3, rfl, hg3, hgc3, hmk⟩
    replace hl := hl.below hmk
    replace hi := hi.below hmk
    replace hg := hg.below hmk
    replace HB := Lib.hid (HB.out.trans (hmk.mono HB.out.size))
    clear hmk
    go_wp2_with fail
    refine (equalLists_any _ _ _ _ _ _ _ gcap gcap3 _ _ hg hg3).mono ?_
    rintro e w4 ⟨rfl, hdrw⟩
    replace hl := hl.drawn hdrw
    replace hi := hi.drawn hdrw
    replace hg := hg.drawn hdrw
    replace hg3 := hg3.drawn hdrw
    replace HB := Lib.hid (HB.out.trans hdrw.below)
    have HS_w4 := Lib.hid (congrArg Array.size hdrw.heap)
    clear hdrw
    rw [eqLL_self]
    clear hg3 hgc3

    have HA := Lib.hid (lstV_asc cs ll)
    have HK := Lib.hid (lstV_ok cs ll)
    have hll := HK.out.1
    obtain ⟨L, eL⟩ : ∃ L, lstV cs ll = L := ⟨_, rfl⟩
    rw [eL] at HA HK hg hgc hll ⊢
    clear eL
    go_wp2_with fail
    go_loopw [6] (fun i wr => ∃ c : Nat, c ≤ L.length ∧ i = .int .i64 (c : Int) ∧ Hid (Drawn w4 wr)) (fun i _ => L.length - (intOf i).toNat)
    case atStart => exact ⟨0, Nat.zero_le _, rfl, Drawn.refl _⟩
    case round =>
      obtain ⟨c, hc, rfl, HD⟩ := hrel
      by_cases hlt : c < L.length
      · have hgr := hg.drawn HD.out
        have HAC := Lib.hid (HA.out c hlt)
        have hrl := (HK.out.2 c hlt).1
        obtain ⟨gb, go, ar, cr, rfl, _, _, hgc0, hrow⟩ := hgr.at_ hlt
        obtain ⟨row, er⟩ : ∃ row, L.getD c [] = row := ⟨_, rfl⟩
        rw [er] at HAC hgc0 hrow hrl
        have HRW := Lib.hid hrow
        have HC0 := Lib.hid hgc0
        clear er hgr hgc0 hrow
        rename World => wo
        go_wp2_with fail
        go_loopw [7] (fun i wr => ∃ k : Nat, (k = 0 ∨ k + 1 ≤ row.length) ∧ i = .int .i64 ((k : Int) + 1) ∧ Hid (Drawn wo wr)) (fun i _ => row.length - (intOf i).toNat)
        case atStart => exact ⟨0, .inl rfl, rfl, Drawn.refl _⟩
        case round =>
          obtain ⟨k, hk, rfl, HE⟩ := hrel
          have hc0 := cell_later HE.out.below HC0.out
          have hci : (c : Int) < L.length := by omega
          by_cases hlt2 : k + 1 < row.length
          · have hrr := HRW.out.drawn HE.out
            obtain ⟨rb, ro, rfl, _, _, x1, _⟩ := hrr.at_ (k := k) (by omega)
            obtain ⟨rb', ro', he, _, _, x2, _⟩ := hrr.at_ (k := k + 1) hlt2
            simp only [Option.some.injEq, Addr.mk.injEq] at he
            obtain ⟨rfl, rfl, _⟩ := he
            have hlt3 := HAC.out k hlt2
            obtain ⟨y1, e1⟩ : ∃ y, row.getD k 0 = y := ⟨_, rfl⟩
            obtain ⟨y2, e2⟩ : ∃ y, row.getD (k + 1) 0 = y := ⟨_, rfl⟩
            rw [e1] at x1 hlt3
            rw [e2] at x2 hlt3
            have hd : decide (y2 ≤ y1) = false := decide_eq_false (by omega)
            have hki : (k : Int) + 1 < row.length := by omega
            have hki2 : (k : Int) < row.length := by omega
            have hw1 : IntKind.i64.wrap (k : Int) = (k : Int) := wrap_in (by omega)
            have ht1 : ((k : Int) + 1).toNat = k + 1 := by omega
            clear hrr e1 e2 hlt3 hk hlt2
            go_wp2_with fail
            go_quiet (fail)
            go_wp2_with fail
            go_roundw
            case rel => exact ⟨k + 1, .inr (by omega), by go_num, HE.out.more _⟩
            case measure => simp [intOf]; omega
          · have hki : ¬ ((k : Int) + 1 < row.length) := by omega
            go_wp2_with fail
            go_roundw
            case rel => exact ⟨c + 1, by omega, by go_num, HD.out.trans HE.out⟩
            case measure => simp [intOf]; omega
      · go_wp2_with fail
        go_ret
        exact ⟨rfl, HB.out.trans HD.out.below⟩
theorem own : ownKnob Try.prog.godebug = none := by kernel_rfl
theorem laidOut : laidOutB Try.prog = true := by kernel_rfl

set_option maxRecDepth 100000 in
theorem lifted (os : Os) (started : os.Started) (H : Type) (enc : TypeId × Value → H) :
    ReturnsInHanded {} Try.checked os 12 .any (Rows.fnListsOfOrderSpec.pre6 enc Try.prog Try.f12 Rows.fnListsOfOrderRow.domain false) (Rows.fnListsOfOrderSpec.post enc Try.prog Try.f12 false true false false) := by
  refine returnsInHanded_of_change (C := Try.checked) own started (by kernel_rfl) Try.func12
    (ChangeSpec.witness6 (enc := enc) (C := Try.checked) false ⟨#[], #[.slice none 0 0], []⟩ 8 (by kernel_rfl) (by kernel_rfl) (by kernel_rfl) (by kernel_rfl)) ?_
  intro W base args ds gs before hval0 hW hcnd _
  have hval : ∀ (j : Nat) t v, Try.f12.params[j]? = some t → args[j]? = some v → Value.okWide Try.prog W .any base t v := hval0
  have hW' := hW
  obtain ⟨p, q, hA0, hV, rfl, hfz, hnd⟩ := hW
  have hA : DataW.TrodAll enc Try.prog W 0 (fun _ => true) true Try.f12.params.toList args.toList ds p := hA0
  rw [Try.params12] at hA hval
  obtain ⟨v0, vs0, d0, ds0, p0, q0, hargs, rfl, rfl, h0, r0⟩ := trodAll_cons hA
  obtain ⟨rfl, rfl, rfl⟩ := trodAll_nil r0
  obtain rfl : args = #[v0] := by cases args; simp_all
  obtain ⟨rfl, rfl⟩ := trodVars_none hV
  obtain ⟨a0, len0, cap0, rfl⟩ := okWide_slice Try.underlying33 (hval 0 33 v0 rfl rfl)
  have k0 := h0
  have lt0 : ∀ x ∈ p0, x.block < W.heap.size := by obtain ⟨m, hm⟩ := k0; exact DataW.trod_lt m _ _ _ hm
  obtain ⟨z0, w0⟩ : ∃ zs, IsRow .u8 W a0 len0 cap0 zs := by
    obtain ⟨fuel, hf⟩ := h0
    rcases open_ints Try.underlying33 Try.underlying5 (by kernel_rfl) hf with ⟨hcs, _⟩ | ⟨x, l, c, zs, hcs, _, hl, hm, hz, _, hcell, hwz⟩
    · simp [Value.cells] at hcs
      obtain ⟨rfl, rfl, rfl⟩ := hcs
      exact ⟨[], .inl ⟨rfl, rfl, rfl, rfl⟩⟩
    · simp [Value.cells] at hcs
      obtain ⟨rfl, rfl, rfl⟩ := hcs
      exact ⟨zs, .inr ⟨_, rfl, hl, hm, by simpa using hz, hcell, hwz⟩⟩
  clear hA0 hval0
  refine (walk a0 len0 cap0 z0 W w0).mono fun e W' ⟨he, bel⟩ => ?_
  subst he
  exact ⟨_, rfl, _, _, _, [], _, [], hW', trodAll_mk1 (shut_bool Try.underlying4 _), (trodAll_cons_mk (Below.trod laidOut (by kernel_rfl) (of_decide_eq_true (by kernel_rfl)) k0 bel lt0) trodAll_mk0), rfl, bel.frame _, fun h => by cases h⟩

theorem over : Rows.fnListsOfOrderRow.holds Try.pinned (OpenSpec.ofChange Rows.fnListsOfOrderSpec) :=
  OpenClaim.holds_of_wide 12 Try.f12 rfl rfl rfl rfl rfl rfl rfl ⟨rfl, rfl, rfl, rfl, rfl⟩ rfl rfl rfl rfl rfl (by kernel_rfl) Try.func12 (by kernel_rfl)
    (of_decide_eq_true (by kernel_rfl)) (by unfold Func.isWrapper; first | (rw [if_pos (by decide +kernel)]; kernel_rfl) | (rw [if_neg (by decide +kernel)]; exact ⟨rfl, rfl⟩))
    (fun os started H enc _ => lifted os started H enc)

/-- THE STATEMENT -/
theorem proved : Rows.FnListsOfOrderSaid :=
  over
#print axioms proved
end Go.Proofs.Ytelcnjdemepmfaa.fnListsOfOrder
