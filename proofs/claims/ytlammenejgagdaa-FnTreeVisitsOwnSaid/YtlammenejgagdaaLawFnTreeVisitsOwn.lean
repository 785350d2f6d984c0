/-
  For all codes: of the store, the kind, the vector and the number that the code draws: TreeVisits is what the reference says; with one item it is 1, and for one item at the first item it is at least 1. No condition.
-/
import Derived.Test.YtlammenejgagdaaRows
import Derived.Test.YtlammenejgagdaaTreeVis
import Derived.Test.YtlammenejgagdaaTreeLaws
import Derived.Test.YtlammenejgagdaaDrawTree
import Derived.ProofKit
import Derived.OpenShut
import Derived.ShutString
import Derived.ChangeOld
namespace Go.Proofs.Ytlammenejgagdaa.fnTreeVisitsOwn
open Go.ChangeShapes Go.WideShapes Go.ChangeAt Go.RowKit
set_option linter.unusedVariables false

set_option maxRecDepth 4000 in
set_option maxHeartbeats 1000000 in
theorem walk (a0 : Option Addr) (len0 cap0 : Nat) (z0 : List Int) (w : World) (w0 : IsRow .u8 w a0 len0 cap0 z0) :
    Calls Try.prog 7 #[.slice a0 len0 cap0] w fun e w' => e = .returned (.bool true) ∧ Below w.heap.size w w' := by
  by_cases hl : 1048576 < len0
  · clear w0
    go_enter Try.func7, Try.ntmps7
    go_wp2
    go_ret
    exact ⟨rfl, Below.refl _ _⟩
  · have H := Lib.hid (bytes_of_row w0 (by omega))
    clear w0
    go_enter Try.func7, Try.ntmps7
    go_wp2_with fail
    refine (DrawTreeVisits_any _ _ _ _ _ H.out).mono ?_
    rintro e w1 ⟨a, b, cap, capm, ll, q, kind, k, rfl, ⟨hi, hcap⟩, ⟨hm, hcm⟩, hq, hkd, hk, hb⟩
    have HB := Lib.hid hb
    have hs1 := hb.size
    have HI := Lib.hid (And.intro hi (And.intro hm hcap))
    have IM := Lib.hid fun w' (bl : Below w1.heap.size w1 w') => implTreeVisits w' _ _ _ _ a b cap capm kind k ll q (hi.below bl) (hm.below bl) hcap
    have SP := Lib.hid fun w' (bl : Below w1.heap.size w1 w') => specTreeVisits w' _ _ _ _ a b cap capm kind k ll q (hi.below bl) (hm.below bl) hcap
    obtain ⟨V, eV⟩ : ∃ V, tvV kind q ll k = V := ⟨_, rfl⟩
    rw [eV] at IM SP
    have HV := Lib.hid eV
    clear hb hi hm eV
    go_wp2_with fail
    refine (IM.out _ (Below.refl _ _)).mono ?_
    rintro e w2 ⟨rfl, b2⟩
    have B2 := Lib.hid b2
    have hs2 := b2.size
    clear b2
    go_wp2_with fail
    refine (SP.out _ B2.out).mono ?_
    rintro e w3 ⟨rfl, b3⟩
    have B3 := Lib.hid (B2.out.trans (b3.mono hs2))
    have hs3 := B3.out.size
    clear b3
    have hvv : (V != V) = false := by simp
    have hvw : (V == V) = true := by simp
    by_cases hz : V < 1
    · go_wp2_with fail
      refine (SP.out _ B3.out).mono ?_
      rintro e w4 ⟨rfl, b4⟩
      have HB4 : Hid (Below w.heap.size w w4) := Lib.hid (HB.out.trans ((B3.out.trans (b4.mono hs3)).mono HB.out.size))
      clear b4
      go_wp2_with fail
      go_ret
      exact ⟨rfl, HB4.out⟩
    · have HT := Lib.hid (tvV_some (show ¬ tvV kind q ll k < 1 by rw [HV.out]; exact hz))
      have h1l := HT.out.2
      have HF := Lib.hid (tvV_own HT.out.1 h1l)
      obtain ⟨bb, off, rfl, _, _, aj, cj, c0, c1, c2, hx, hcj, -, -⟩ := (HI.out.1.below B3.out).at_ (show 0 < ll.length by omega)
      rw [Nat.zero_mul, Nat.add_zero] at c0 c1 c2
      have hcap1 := HI.out.2.2.1
      have T1 := implTreeVisits w3 _ _ _ _ (some ⟨bb, off, none⟩) b cap capm kind k (ll.take 1) q ((HI.out.1.below B3.out).take 1) (HI.out.2.1.below B3.out) ⟨by rw [List.length_take]; omega, HI.out.2.2.2⟩
      rw [show (ll.take 1).length = 1 by rw [List.length_take]; omega, HF.out.1] at T1
      have HT1 := Lib.hid T1
      have T2 := Lib.hid fun w' (bl : Below w3.heap.size w3 w') => implTreeVisits w' _ _ _ _ (some ⟨bb, off, none⟩) aj cap cj kind 1 ll (ll.getD 0 It.no).pos (HI.out.1.below (B3.out.trans (bl.mono hs3))) (hx.below bl) HI.out.2.2
      obtain ⟨U, eU⟩ : ∃ U, tvV kind (ll.getD 0 It.no).pos ll 1 = U := ⟨_, rfl⟩
      rw [eU] at HF T2
      have hf := HF.out.2
      have hc1 : (1 : Int) ≤ (cap : Int) := by omega
      have h0l : (0 : Int) < (ll.length : Int) := by omega
      obtain ⟨x, ex⟩ : ∃ x, (ll.getD 0 It.no).pos = x := ⟨_, rfl⟩
      rw [ex] at c1 T2
      have HC1 := Lib.hid c1
      clear T1 eU HF ex hx hcj c0 c2 HT
      go_wp2_with fail
      refine HT1.out.mono ?_
      rintro e w4 ⟨rfl, b4⟩
      have B4 := Lib.hid b4
      have hs4 := b4.size
      replace c1 := cell_later b4 HC1.out
      clear b4
      go_wp2_with fail
      refine (T2.out _ B4.out).mono ?_
      rintro e w5 ⟨rfl, b5⟩
      have HB5 : Hid (Below w.heap.size w w5) := Lib.hid (HB.out.trans ((B3.out.trans ((B4.out.trans (b5.mono hs4)).mono hs3)).mono HB.out.size))
      clear b5
      go_wp2_with fail
      go_ret
      exact ⟨rfl, HB5.out⟩
theorem own : ownKnob Try.prog.godebug = none := by kernel_rfl
theorem laidOut : laidOutB Try.prog = true := by kernel_rfl

set_option maxRecDepth 100000 in
theorem lifted (os : Os) (started : os.Started) (H : Type) (enc : TypeId × Value → H) :
    ReturnsInHanded {} Try.checked os 7 .any (Rows.fnTreeVisitsOwnSpec.pre6 enc Try.prog Try.f7 Rows.fnTreeVisitsOwnRow.domain false) (Rows.fnTreeVisitsOwnSpec.post enc Try.prog Try.f7 false true false false) := by
  refine returnsInHanded_of_change (C := Try.checked) own started (by kernel_rfl) Try.func7
    (ChangeSpec.witness6 (enc := enc) (C := Try.checked) false ⟨#[], #[.slice none 0 0], []⟩ 8 (by kernel_rfl) (by kernel_rfl) (by kernel_rfl) (by kernel_rfl)) ?_
  intro W base args ds gs before hval0 hW hcnd _
  have hval : ∀ (j : Nat) t v, Try.f7.params[j]? = some t → args[j]? = some v → Value.okWide Try.prog W .any base t v := hval0
  have hW' := hW
  obtain ⟨p, q, hA0, hV, rfl, hfz, hnd⟩ := hW
  have hA : DataW.TrodAll enc Try.prog W 0 (fun _ => true) true Try.f7.params.toList args.toList ds p := hA0
  rw [Try.params7] at hA hval
  obtain ⟨v0, vs0, d0, ds0, p0, q0, hargs, rfl, rfl, h0, r0⟩ := trodAll_cons hA
  obtain ⟨rfl, rfl, rfl⟩ := trodAll_nil r0
  obtain rfl : args = #[v0] := by cases args; simp_all
  obtain ⟨rfl, rfl⟩ := trodVars_none hV
  obtain ⟨a0, len0, cap0, rfl⟩ := okWide_slice Try.underlying22 (hval 0 22 v0 rfl rfl)
  have k0 := h0
  have lt0 : ∀ x ∈ p0, x.block < W.heap.size := by obtain ⟨m, hm⟩ := k0; exact DataW.trod_lt m _ _ _ hm
  obtain ⟨z0, w0⟩ : ∃ zs, IsRow .u8 W a0 len0 cap0 zs := by
    obtain ⟨fuel, hf⟩ := h0
    rcases open_ints Try.underlying22 Try.underlying5 (by kernel_rfl) hf with ⟨hcs, _⟩ | ⟨x, l, c, zs, hcs, _, hl, hm, hz, _, hcell, hwz⟩
    · simp [Value.cells] at hcs
      obtain ⟨rfl, rfl, rfl⟩ := hcs
      exact ⟨[], .inl ⟨rfl, rfl, rfl, rfl⟩⟩
    · simp [Value.cells] at hcs
      obtain ⟨rfl, rfl, rfl⟩ := hcs
      exact ⟨zs, .inr ⟨_, rfl, hl, hm, by simpa using hz, hcell, hwz⟩⟩
  clear hA0 hval0
  refine (walk a0 len0 cap0 z0 W w0).mono fun e W' ⟨he, bel⟩ => ?_
  subst he
  exact ⟨_, rfl, _, _, _, [], _, [], hW', trodAll_mk1 (shut_bool Try.underlying4 _), (trodAll_cons_mk (Below.trod laidOut (by kernel_rfl) (of_decide_eq_true (by kernel_rfl)) k0 bel lt0) trodAll_mk0), rfl, bel.frame _, fun h => by cases h⟩

theorem over : Rows.fnTreeVisitsOwnRow.holds Try.pinned (OpenSpec.ofChange Rows.fnTreeVisitsOwnSpec) :=
  OpenClaim.holds_of_wide 7 Try.f7 rfl rfl rfl rfl rfl rfl rfl ⟨rfl, rfl, rfl, rfl, rfl⟩ rfl rfl rfl rfl rfl (by kernel_rfl) Try.func7 (by kernel_rfl)
    (of_decide_eq_true (by kernel_rfl)) (by unfold Func.isWrapper; first | (rw [if_pos (by decide +kernel)]; kernel_rfl) | (rw [if_neg (by decide +kernel)]; exact ⟨rfl, rfl⟩))
    (fun os started H enc _ => lifted os started H enc)

/-- THE STATEMENT -/
theorem proved : Rows.FnTreeVisitsOwnSaid :=
  over
#print axioms proved
end Go.Proofs.Ytlammenejgagdaa.fnTreeVisitsOwn
