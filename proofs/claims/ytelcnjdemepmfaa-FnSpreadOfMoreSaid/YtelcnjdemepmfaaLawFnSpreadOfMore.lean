/-
  For all codes: of the centres and the store that the code draws: SpreadOf is what the reference says, and at most SpreadOf with the first centre alone; without items it is 0. No condition.
-/
import Derived.Test.YtelcnjdemepmfaaRows
import Derived.Test.YtelcnjdemepmfaaClusLaws
import Derived.Test.YtelcnjdemepmfaaDrawStoreTops
import Derived.ProofKit
import Derived.OpenShut
import Derived.ShutString
import Derived.ChangeOld
namespace Go.Proofs.Ytelcnjdemepmfaa.fnSpreadOfMore
open Go.ChangeShapes Go.WideShapes Go.ChangeAt Go.RowKit
set_option linter.unusedVariables false

set_option maxHeartbeats 1000000 in
theorem walk (a0 : Option Addr) (len0 cap0 : Nat) (z0 : List Int) (w : World) (w0 : IsRow .u8 w a0 len0 cap0 z0) :
    Calls Try.prog 5 #[.slice a0 len0 cap0] w fun e w' => e = .returned (.bool true) ∧ Below w.heap.size w w' := by
  by_cases hl : 1048576 < len0
  · clear w0
    go_enter Try.func5, Try.ntmps5
    go_wp2
    go_ret
    exact ⟨rfl, Below.refl _ _⟩
  · have H := Lib.hid (bytes_of_row w0 (by omega))
    clear w0
    go_enter Try.func5, Try.ntmps5
    go_wp2_with fail
    refine (DrawSpreadOf_any _ _ _ _ _ H.out).mono ?_
    rintro e w1 ⟨a, b, cap, cap', cs, ll, rfl, ⟨hl, hcap⟩, ⟨hi, hcap2⟩, hq, hb⟩
    have HB := Lib.hid hb
    have hc1 := hcap.1
    have hc2 := hcap.2
    have hc3 := hcap2.1
    have hc4 := hcap2.2
    have hq1 := hq.1
    have hq2 := hq.2
    clear hb hcap hcap2 hq
    go_wp2_with fail

    refine (implSpreadOf _ _ _ _ _ _ _ _ _ cs ll hl hi).mono ?_
    rintro e w2 ⟨rfl, hmk⟩
    replace hl := hl.below hmk
    replace hi := hi.below hmk
    have HSW := Lib.hid hmk.size
    replace HB := Lib.hid (HB.out.trans (hmk.mono HB.out.size))
    clear hmk
    go_wp2_with fail
    refine (specSpreadOf _ _ _ _ _ _ _ _ _ cs ll hl hi).mono ?_
    rintro e w3 ⟨rfl, hmk⟩
    replace hl := hl.below hmk
    replace hi := hi.below hmk
    replace HSW := Lib.hid (Nat.le_trans HSW.out hmk.size)
    replace HB := Lib.hid (HB.out.trans (hmk.mono HB.out.size))
    clear hmk
    cases hv : csB cs ll
    · have he := sprV_no hv
      rw [he]
      go_wp2_with fail
      refine (specSpreadOf _ _ _ _ _ _ _ _ _ cs ll hl hi).mono ?_
      rintro e w4 ⟨rfl, hmk⟩
      replace hl := hl.below hmk
      replace hi := hi.below hmk
      replace HB := Lib.hid (HB.out.trans (hmk.mono HB.out.size))
      clear hmk
      rw [he]
      go_wp2_with fail
      go_ret
      exact ⟨rfl, HB.out⟩
    · have HV := Lib.hid hv
      have hsv := sprV_yes hv
      have hbd := spr_bd hv (Nat.le_refl ll.length)
      have hl16 := storeB_len (csB_store hv)
      have hlc := (cenB_len (csB_cen hv)).1
      have hlc4 := (cenB_len (csB_cen hv)).2
      clear hv
      have HO := Lib.hid (sprV_one HV.out)
      have T := hl.take 1
      obtain ⟨p, off, rfl⟩ := hl.addr hlc
      have e1 : (cs.take 1).length = 1 := by simp; omega
      have hl1 : 1 ≤ cap := by omega
      have hl2 : (1 : Int) ≤ (cap : Int) := by omega
      have C1 := Lib.hid (implSpreadOf w3 _ _ _ _ _ _ cap cap' (cs.take 1) ll T hi)
      have C2 := Lib.hid fun w' (h : Lists w' 0 w1.heap.size (some ⟨p, off, none⟩) cs) => implSpreadOf w' _ _ 0 0 _ none cap 0 cs [] h (Items.nil _ _ _ _)
      rw [e1] at C1
      rw [hsv] at HO ⊢
      obtain ⟨n, en⟩ : ∃ n, spr cs ll ll.length = n := ⟨_, rfl⟩
      rw [en] at HO hbd ⊢
      obtain ⟨m, em⟩ : ∃ m, sprV (cs.take 1) ll = m := ⟨_, rfl⟩
      rw [em] at HO C1
      rw [HO.out.2] at C2
      have hmn : n ≤ m := HO.out.1
      clear en em hsv e1 T
      go_wp2_with fail
      refine (C1.out).mono ?_
      rintro e w4 ⟨rfl, hmk⟩
      replace hl := hl.below hmk
      replace hi := hi.below hmk
      replace HB := Lib.hid (HB.out.trans (hmk.mono HB.out.size))
      clear hmk
      go_wp2_with fail
      refine (C2.out _ hl).mono ?_
      rintro e w5 ⟨rfl, hmk⟩
      replace hl := hl.below hmk
      replace hi := hi.below hmk
      replace HB := Lib.hid (HB.out.trans (hmk.mono HB.out.size))
      clear hmk
      go_wp2_with fail
      go_ret
      exact ⟨rfl, HB.out⟩
theorem own : ownKnob Try.prog.godebug = none := by kernel_rfl
theorem laidOut : laidOutB Try.prog = true := by kernel_rfl

set_option maxRecDepth 100000 in
theorem lifted (os : Os) (started : os.Started) (H : Type) (enc : TypeId × Value → H) :
    ReturnsInHanded {} Try.checked os 5 .any (Rows.fnSpreadOfMoreSpec.pre6 enc Try.prog Try.f5 Rows.fnSpreadOfMoreRow.domain false) (Rows.fnSpreadOfMoreSpec.post enc Try.prog Try.f5 false true false false) := by
  refine returnsInHanded_of_change (C := Try.checked) own started (by kernel_rfl) Try.func5
    (ChangeSpec.witness6 (enc := enc) (C := Try.checked) false ⟨#[], #[.slice none 0 0], []⟩ 8 (by kernel_rfl) (by kernel_rfl) (by kernel_rfl) (by kernel_rfl)) ?_
  intro W base args ds gs before hval0 hW hcnd _
  have hval : ∀ (j : Nat) t v, Try.f5.params[j]? = some t → args[j]? = some v → Value.okWide Try.prog W .any base t v := hval0
  have hW' := hW
  obtain ⟨p, q, hA0, hV, rfl, hfz, hnd⟩ := hW
  have hA : DataW.TrodAll enc Try.prog W 0 (fun _ => true) true Try.f5.params.toList args.toList ds p := hA0
  rw [Try.params5] at hA hval
  obtain ⟨v0, vs0, d0, ds0, p0, q0, hargs, rfl, rfl, h0, r0⟩ := trodAll_cons hA
  obtain ⟨rfl, rfl, rfl⟩ := trodAll_nil r0
  obtain rfl : args = #[v0] := by cases args; simp_all
  obtain ⟨rfl, rfl⟩ := trodVars_none hV
  obtain ⟨a0, len0, cap0, rfl⟩ := okWide_slice Try.underlying33 (hval 0 33 v0 rfl rfl)
  have k0 := h0
  have lt0 : ∀ x ∈ p0, x.block < W.heap.size := by obtain ⟨m, hm⟩ := k0; exact DataW.trod_lt m _ _ _ hm
  obtain ⟨z0, w0⟩ : ∃ zs, IsRow .u8 W a0 len0 cap0 zs := by
    obtain ⟨fuel, hf⟩ := h0
    rcases open_ints Try.underlying33 Try.underlying5 (by kernel_rfl) hf with ⟨hcs, _⟩ | ⟨x, l, c, zs, hcs, _, hl, hm, hz, _, hcell, hwz⟩
    · simp [Value.cells] at hcs
      obtain ⟨rfl, rfl, rfl⟩ := hcs
      exact ⟨[], .inl ⟨rfl, rfl, rfl, rfl⟩⟩
    · simp [Value.cells] at hcs
      obtain ⟨rfl, rfl, rfl⟩ := hcs
      exact ⟨zs, .inr ⟨_, rfl, hl, hm, by simpa using hz, hcell, hwz⟩⟩
  clear hA0 hval0
  refine (walk a0 len0 cap0 z0 W w0).mono fun e W' ⟨he, bel⟩ => ?_
  subst he
  exact ⟨_, rfl, _, _, _, [], _, [], hW', trodAll_mk1 (shut_bool Try.underlying4 _), (trodAll_cons_mk (Below.trod laidOut (by kernel_rfl) (of_decide_eq_true (by kernel_rfl)) k0 bel lt0) trodAll_mk0), rfl, bel.frame _, fun h => by cases h⟩

theorem over : Rows.fnSpreadOfMoreRow.holds Try.pinned (OpenSpec.ofChange Rows.fnSpreadOfMoreSpec) :=
  OpenClaim.holds_of_wide 5 Try.f5 rfl rfl rfl rfl rfl rfl rfl ⟨rfl, rfl, rfl, rfl, rfl⟩ rfl rfl rfl rfl rfl (by kernel_rfl) Try.func5 (by kernel_rfl)
    (of_decide_eq_true (by kernel_rfl)) (by unfold Func.isWrapper; first | (rw [if_pos (by decide +kernel)]; kernel_rfl) | (rw [if_neg (by decide +kernel)]; exact ⟨rfl, rfl⟩))
    (fun os started H enc _ => lifted os started H enc)

/-- THE STATEMENT -/
theorem proved : Rows.FnSpreadOfMoreSaid :=
  over
#print axioms proved
end Go.Proofs.Ytelcnjdemepmfaa.fnSpreadOfMore
