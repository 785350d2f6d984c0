/-
  For all codes: of the nodes, the store and the kind that the code draws: IsTreeOf is what the reference says, and holds just for what BuildTree builds, which has as many nodes as the store has items. No condition.
-/
import Derived.Test.YtlammenejgagdaaRows
import Derived.Test.YtlammenejgagdaaDrawIs
import Derived.ProofKit
import Derived.OpenShut
import Derived.ShutString
import Derived.ChangeOld
namespace Go.Proofs.Ytlammenejgagdaa.fnIsTreeOf
open Go.ChangeShapes Go.WideShapes Go.ChangeAt Go.RowKit
set_option linter.unusedVariables false

set_option maxRecDepth 4000 in
set_option maxHeartbeats 1000000 in
theorem walk (a0 : Option Addr) (len0 cap0 : Nat) (z0 : List Int) (w : World) (w0 : IsRow .u8 w a0 len0 cap0 z0) :
    Calls Try.prog 3 #[.slice a0 len0 cap0] w fun e w' => e = .returned (.bool true) ∧ Below w.heap.size w w' := by
  by_cases hl : 1048576 < len0
  · clear w0
    go_enter Try.func3, Try.ntmps3
    go_wp2
    go_ret
    exact ⟨rfl, Below.refl _ _⟩
  · have H := Lib.hid (bytes_of_row w0 (by omega))
    clear w0
    go_enter Try.func3, Try.ntmps3
    go_wp2_with fail
    refine (DrawIsTreeOf_any _ _ _ _ _ H.out).mono ?_
    rintro e w1 ⟨a0, a, cap0, cap, N, ll, kind, rfl, ⟨hn, hcap0⟩, ⟨hi, hcap⟩, hq, hb⟩
    have HB := Lib.hid hb
    have hs1 := hb.size
    have HN := Lib.hid hn
    have HI := Lib.hid (And.intro hi hcap)
    have IM := Lib.hid fun w' (bl : Below w1.heap.size w1 w') => implIsTreeOf w' _ _ _ _ a0 a cap0 cap kind N ll (hn.below bl) (hi.below bl) hcap
    have SP := Lib.hid fun w' (bl : Below w1.heap.size w1 w') => specIsTreeOf w' _ _ _ _ a0 a cap0 cap kind N ll (hn.below bl) (hi.below bl) hcap
    clear hb hi hn
    cases hv : isV kind ll N
    · rw [hv] at IM SP
      clear hv
      go_wp2_with fail
      refine (IM.out _ (Below.refl _ _)).mono ?_
      rintro e w2 ⟨rfl, b2⟩
      have B2 := Lib.hid b2
      have hs2 := b2.size
      clear b2
      go_wp2_with fail
      refine (SP.out _ B2.out).mono ?_
      rintro e w3 ⟨rfl, b3⟩
      have B3 := Lib.hid (B2.out.trans (b3.mono hs2))
      have hs3 := B3.out.size
      clear b3
      go_wp2_with fail
      refine (SP.out _ B3.out).mono ?_
      rintro e w4 ⟨rfl, b4⟩
      have HB4 : Hid (Below w.heap.size w w4) := Lib.hid (HB.out.trans ((B3.out.trans (b4.mono hs3)).mono HB.out.size))
      clear b4
      go_wp2_with fail
      go_ret
      exact ⟨rfl, HB4.out⟩
    · have HL := Lib.hid (isV_law hv)
      rw [hv] at IM SP
      clear hv
      go_wp2_with fail
      refine (IM.out _ (Below.refl _ _)).mono ?_
      rintro e w2 ⟨rfl, b2⟩
      have B2 := Lib.hid b2
      have hs2 := b2.size
      clear b2
      go_wp2_with fail
      refine (SP.out _ B2.out).mono ?_
      rintro e w3 ⟨rfl, b3⟩
      have B3 := Lib.hid (B2.out.trans (b3.mono hs2))
      have hs3 := B3.out.size
      have BT := Lib.hid (implBuildTree w3 _ _ a cap kind ll (HI.out.1.below B3.out) HI.out.2)
      rw [HL.out.1] at BT
      clear b3
      go_wp2_with fail
      refine BT.out.mono ?_
      rintro e w4 ⟨v, rfl, ho, b4⟩
      obtain ⟨ta, tc, rfl, hT, -⟩ := Nodes.of_own ho (by omega)
      have B4 := Lib.hid (B3.out.trans (b4.mono hs3))
      have hs4 := B4.out.size
      have EQ := Lib.hid (equalNodes_any w4 _ _ _ _ ta a0 tc cap0 N N hT (HN.out.below B4.out))
      rw [show eqN N N = true from decide_eq_true rfl] at EQ
      have hll : ((N.length : Int) == (ll.length : Int)) = true := by rw [beq_iff_eq]; have := HL.out.2; omega
      clear ho b4 hT
      go_wp2_with fail
      refine EQ.out.mono ?_
      rintro e w5 ⟨rfl, hd⟩
      have HB5 : Hid (Below w.heap.size w w5) := Lib.hid (HB.out.trans ((B4.out.trans (hd.below.mono hs4)).mono HB.out.size))
      clear hd
      go_wp2_with fail
      go_ret
      exact ⟨rfl, HB5.out⟩
theorem own : ownKnob Try.prog.godebug = none := by kernel_rfl
theorem laidOut : laidOutB Try.prog = true := by kernel_rfl

set_option maxRecDepth 100000 in
theorem lifted (os : Os) (started : os.Started) (H : Type) (enc : TypeId × Value → H) :
    ReturnsInHanded {} Try.checked os 3 .any (Rows.fnIsTreeOfSpec.pre6 enc Try.prog Try.f3 Rows.fnIsTreeOfRow.domain false) (Rows.fnIsTreeOfSpec.post enc Try.prog Try.f3 false true false false) := by
  refine returnsInHanded_of_change (C := Try.checked) own started (by kernel_rfl) Try.func3
    (ChangeSpec.witness6 (enc := enc) (C := Try.checked) false ⟨#[], #[.slice none 0 0], []⟩ 8 (by kernel_rfl) (by kernel_rfl) (by kernel_rfl) (by kernel_rfl)) ?_
  intro W base args ds gs before hval0 hW hcnd _
  have hval : ∀ (j : Nat) t v, Try.f3.params[j]? = some t → args[j]? = some v → Value.okWide Try.prog W .any base t v := hval0
  have hW' := hW
  obtain ⟨p, q, hA0, hV, rfl, hfz, hnd⟩ := hW
  have hA : DataW.TrodAll enc Try.prog W 0 (fun _ => true) true Try.f3.params.toList args.toList ds p := hA0
  rw [Try.params3] at hA hval
  obtain ⟨v0, vs0, d0, ds0, p0, q0, hargs, rfl, rfl, h0, r0⟩ := trodAll_cons hA
  obtain ⟨rfl, rfl, rfl⟩ := trodAll_nil r0
  obtain rfl : args = #[v0] := by cases args; simp_all
  obtain ⟨rfl, rfl⟩ := trodVars_none hV
  obtain ⟨a0, len0, cap0, rfl⟩ := okWide_slice Try.underlying22 (hval 0 22 v0 rfl rfl)
  have k0 := h0
  have lt0 : ∀ x ∈ p0, x.block < W.heap.size := by obtain ⟨m, hm⟩ := k0; exact DataW.trod_lt m _ _ _ hm
  obtain ⟨z0, w0⟩ : ∃ zs, IsRow .u8 W a0 len0 cap0 zs := by
    obtain ⟨fuel, hf⟩ := h0
    rcases open_ints Try.underlying22 Try.underlying5 (by kernel_rfl) hf with ⟨hcs, _⟩ | ⟨x, l, c, zs, hcs, _, hl, hm, hz, _, hcell, hwz⟩
    · simp [Value.cells] at hcs
      obtain ⟨rfl, rfl, rfl⟩ := hcs
      exact ⟨[], .inl ⟨rfl, rfl, rfl, rfl⟩⟩
    · simp [Value.cells] at hcs
      obtain ⟨rfl, rfl, rfl⟩ := hcs
      exact ⟨zs, .inr ⟨_, rfl, hl, hm, by simpa using hz, hcell, hwz⟩⟩
  clear hA0 hval0
  refine (walk a0 len0 cap0 z0 W w0).mono fun e W' ⟨he, bel⟩ => ?_
  subst he
  exact ⟨_, rfl, _, _, _, [], _, [], hW', trodAll_mk1 (shut_bool Try.underlying4 _), (trodAll_cons_mk (Below.trod laidOut (by kernel_rfl) (of_decide_eq_true (by kernel_rfl)) k0 bel lt0) trodAll_mk0), rfl, bel.frame _, fun h => by cases h⟩

theorem over : Rows.fnIsTreeOfRow.holds Try.pinned (OpenSpec.ofChange Rows.fnIsTreeOfSpec) :=
  OpenClaim.holds_of_wide 3 Try.f3 rfl rfl rfl rfl rfl rfl rfl ⟨rfl, rfl, rfl, rfl, rfl⟩ rfl rfl rfl rfl rfl (by kernel_rfl) Try.func3 (by kernel_rfl)
    (of_decide_eq_true (by kernel_rfl)) (by unfold Func.isWrapper; first | (rw [if_pos (by decide +kernel)]; kernel_rfl) | (rw [if_neg (by decide +kernel)]; exact ⟨rfl, rfl⟩))
    (fun os started H enc _ => lifted os started H enc)

/-- THE STATEMENT -/
theorem proved : Rows.FnIsTreeOfSaid :=
  over
#print axioms proved
end Go.Proofs.Ytlammenejgagdaa.fnIsTreeOf
