/-
  For all codes: of the store, the kind, the vector and the number that the code draws: TreeNearest is what the reference says, and what Nearest finds, for all kinds of distances but the square. No condition.
-/
import Derived.Test.YtlammenejgagdaaRows
import Derived.Test.YtlammenejgagdaaTreeSpec
import Derived.Test.YtlammenejgagdaaDrawTree
import Derived.Test.YtlammenejgagdaaHitMark
import Derived.ProofKit
import Derived.OpenShut
import Derived.ShutString
import Derived.ChangeOld
namespace Go.Proofs.Ytlammenejgagdaa.fnTreeNearest
open Go.ChangeShapes Go.WideShapes Go.ChangeAt Go.RowKit
set_option linter.unusedVariables false

set_option maxRecDepth 4000 in
set_option maxHeartbeats 1000000 in
theorem walk (a0 : Option Addr) (len0 cap0 : Nat) (z0 : List Int) (w : World) (w0 : IsRow .u8 w a0 len0 cap0 z0) :
    Calls Try.prog 4 #[.slice a0 len0 cap0] w fun e w' => e = .returned (.bool true) ∧ Below w.heap.size w w' := by
  by_cases hl : 1048576 < len0
  · clear w0
    go_enter Try.func4, Try.ntmps4
    go_wp2
    go_ret
    exact ⟨rfl, Below.refl _ _⟩
  · have H := Lib.hid (bytes_of_row w0 (by omega))
    clear w0
    go_enter Try.func4, Try.ntmps4
    go_wp2_with fail
    refine (DrawTreeNearest_any _ _ _ _ _ H.out).mono ?_
    rintro e w1 ⟨a, b, cap, capm, ll, q, kind, k, rfl, ⟨hi, hcap⟩, ⟨hm, hcm⟩, hq, hkd, hk, hb⟩
    have HB : Hid (Below w.heap.size w w1) := Lib.hid hb
    clear hb
    go_wp2_with fail
    refine (implTreeNearest _ _ _ _ _ a b cap capm kind k ll q hi hm).mono ?_
    rintro e w2 ⟨g, gc, rfl, ⟨hg, -⟩, hgc, hmk⟩
    replace hi := hi.below hmk
    replace hm := hm.below hmk
    replace HB := Lib.hid (HB.out.trans (hmk.mono HB.out.size))
    clear hmk
    go_wp2_with fail
    refine (specTreeNearest _ _ _ _ _ a b cap capm kind k ll q hi hm hcap).mono ?_
    rintro e w3 ⟨g3, gc3, rfl, ⟨hg3, -⟩, hgc3, hmk⟩
    replace hi := hi.below hmk
    replace hm := hm.below hmk
    replace hg := hg.below hmk
    replace HB := Lib.hid (HB.out.trans (hmk.mono HB.out.size))
    clear hmk
    go_wp2_with fail
    refine (equalHits_same _ _ _ _ _ _ _ gc gc3 _ hg hg3).mono ?_
    rintro e w4 ⟨rfl, hdrw⟩
    replace hi := hi.drawn hdrw
    replace hm := hm.drawn hdrw
    replace hg := hg.drawn hdrw
    replace HB := Lib.hid (HB.out.trans hdrw.below)
    have HS_w4 := Lib.hid (congrArg Array.size hdrw.heap)
    clear hdrw
    clear hg3 hgc3
    by_cases hz : kind = 3
    · have hz' : (kind == 3) = true := by simpa using hz
      clear hz
      go_wp2_with fail
      refine (specTreeNearest _ _ _ _ _ a b cap capm kind k ll q hi hm hcap).mono ?_
      rintro e w5 ⟨g5, gc5, rfl, ⟨hg5, -⟩, hgc5, hmk⟩
      replace hi := hi.below hmk
      replace hm := hm.below hmk
      replace hg := hg.below hmk
      replace HB := Lib.hid (HB.out.trans (hmk.mono HB.out.size))
      clear hmk
      go_wp2_with fail
      refine (equalHits_same _ _ _ _ _ _ _ gc gc5 _ hg hg5).mono ?_
      rintro e w6 ⟨rfl, hdrw⟩
      replace HB := Lib.hid (HB.out.trans hdrw.below)
      have HS_w6 := Lib.hid (congrArg Array.size hdrw.heap)
      clear hdrw
      go_wp2_with fail
      go_ret
      exact ⟨rfl, HB.out⟩
    · have hz' : (kind == 3) = false := by simpa using hz
      have HN := implNearest_new _ _ _ _ _ a b cap capm kind k ll q hi hm
      rw [← tnV_near hz] at HN
      have HNN := Lib.hid HN
      clear hz HN
      go_wp2_with fail
      refine (HNN.out).mono ?_
      rintro e w5 ⟨g5, gc5, rfl, ⟨hg5, -⟩, hgc5, hmk⟩
      replace hi := hi.below hmk
      replace hm := hm.below hmk
      replace hg := hg.below hmk
      replace HB := Lib.hid (HB.out.trans (hmk.mono HB.out.size))
      clear hmk
      go_wp2_with fail
      refine (equalHits_same _ _ _ _ _ _ _ gc5 gc _ hg5 hg).mono ?_
      rintro e w6 ⟨rfl, hdrw⟩
      replace HB := Lib.hid (HB.out.trans hdrw.below)
      have HS_w6 := Lib.hid (congrArg Array.size hdrw.heap)
      clear hdrw
      go_wp2_with fail
      go_ret
      exact ⟨rfl, HB.out⟩
theorem own : ownKnob Try.prog.godebug = none := by kernel_rfl
theorem laidOut : laidOutB Try.prog = true := by kernel_rfl

set_option maxRecDepth 100000 in
theorem lifted (os : Os) (started : os.Started) (H : Type) (enc : TypeId × Value → H) :
    ReturnsInHanded {} Try.checked os 4 .any (Rows.fnTreeNearestSpec.pre6 enc Try.prog Try.f4 Rows.fnTreeNearestRow.domain false) (Rows.fnTreeNearestSpec.post enc Try.prog Try.f4 false true false false) := by
  refine returnsInHanded_of_change (C := Try.checked) own started (by kernel_rfl) Try.func4
    (ChangeSpec.witness6 (enc := enc) (C := Try.checked) false ⟨#[], #[.slice none 0 0], []⟩ 8 (by kernel_rfl) (by kernel_rfl) (by kernel_rfl) (by kernel_rfl)) ?_
  intro W base args ds gs before hval0 hW hcnd _
  have hval : ∀ (j : Nat) t v, Try.f4.params[j]? = some t → args[j]? = some v → Value.okWide Try.prog W .any base t v := hval0
  have hW' := hW
  obtain ⟨p, q, hA0, hV, rfl, hfz, hnd⟩ := hW
  have hA : DataW.TrodAll enc Try.prog W 0 (fun _ => true) true Try.f4.params.toList args.toList ds p := hA0
  rw [Try.params4] at hA hval
  obtain ⟨v0, vs0, d0, ds0, p0, q0, hargs, rfl, rfl, h0, r0⟩ := trodAll_cons hA
  obtain ⟨rfl, rfl, rfl⟩ := trodAll_nil r0
  obtain rfl : args = #[v0] := by cases args; simp_all
  obtain ⟨rfl, rfl⟩ := trodVars_none hV
  obtain ⟨a0, len0, cap0, rfl⟩ := okWide_slice Try.underlying22 (hval 0 22 v0 rfl rfl)
  have k0 := h0
  have lt0 : ∀ x ∈ p0, x.block < W.heap.size := by obtain ⟨m, hm⟩ := k0; exact DataW.trod_lt m _ _ _ hm
  obtain ⟨z0, w0⟩ : ∃ zs, IsRow .u8 W a0 len0 cap0 zs := by
    obtain ⟨fuel, hf⟩ := h0
    rcases open_ints Try.underlying22 Try.underlying5 (by kernel_rfl) hf with ⟨hcs, _⟩ | ⟨x, l, c, zs, hcs, _, hl, hm, hz, _, hcell, hwz⟩
    · simp [Value.cells] at hcs
      obtain ⟨rfl, rfl, rfl⟩ := hcs
      exact ⟨[], .inl ⟨rfl, rfl, rfl, rfl⟩⟩
    · simp [Value.cells] at hcs
      obtain ⟨rfl, rfl, rfl⟩ := hcs
      exact ⟨zs, .inr ⟨_, rfl, hl, hm, by simpa using hz, hcell, hwz⟩⟩
  clear hA0 hval0
  refine (walk a0 len0 cap0 z0 W w0).mono fun e W' ⟨he, bel⟩ => ?_
  subst he
  exact ⟨_, rfl, _, _, _, [], _, [], hW', trodAll_mk1 (shut_bool Try.underlying4 _), (trodAll_cons_mk (Below.trod laidOut (by kernel_rfl) (of_decide_eq_true (by kernel_rfl)) k0 bel lt0) trodAll_mk0), rfl, bel.frame _, fun h => by cases h⟩

theorem over : Rows.fnTreeNearestRow.holds Try.pinned (OpenSpec.ofChange Rows.fnTreeNearestSpec) :=
  OpenClaim.holds_of_wide 4 Try.f4 rfl rfl rfl rfl rfl rfl rfl ⟨rfl, rfl, rfl, rfl, rfl⟩ rfl rfl rfl rfl rfl (by kernel_rfl) Try.func4 (by kernel_rfl)
    (of_decide_eq_true (by kernel_rfl)) (by unfold Func.isWrapper; first | (rw [if_pos (by decide +kernel)]; kernel_rfl) | (rw [if_neg (by decide +kernel)]; exact ⟨rfl, rfl⟩))
    (fun os started H enc _ => lifted os started H enc)

/-- THE STATEMENT -/
theorem proved : Rows.FnTreeNearestSaid :=
  over
#print axioms proved
end Go.Proofs.Ytlammenejgagdaa.fnTreeNearest
