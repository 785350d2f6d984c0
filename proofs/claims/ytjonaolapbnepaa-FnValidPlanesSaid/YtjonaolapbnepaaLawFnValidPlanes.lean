/-
  For all codes: of the lists of vectors that the code draws: ValidPlanes is what the reference says. Valid planes without the last one, or without the first one, are valid, if there are several. No condition.
-/
import Derived.Test.YtjonaolapbnepaaRows
import Derived.Test.YtjonaolapbnepaaVecTops
import Derived.Test.YtjonaolapbnepaaDrawTops
import Derived.ProofKit
import Derived.OpenShut
import Derived.ShutString
import Derived.ChangeOld
namespace Go.Proofs.Ytjonaolapbnepaa.fnValidPlanes
open Go.ChangeShapes Go.WideShapes Go.ChangeAt Go.RowKit
set_option linter.unusedVariables false

set_option maxHeartbeats 1000000 in
theorem walk (a0 : Option Addr) (len0 cap0 : Nat) (z0 : List Int) (w : World) (w0 : IsRow .u8 w a0 len0 cap0 z0) :
    Calls Try.prog 6 #[.slice a0 len0 cap0] w fun e w' => e = .returned (.bool true) ∧ Below w.heap.size w w' := by
  by_cases hl : 1048576 < len0
  · clear w0
    go_enter Try.func6, Try.ntmps6
    go_wp2
    go_ret
    exact ⟨rfl, Below.refl _ _⟩
  · have H := Lib.hid (bytes_of_row w0 (by omega))
    clear w0
    go_enter Try.func6, Try.ntmps6
    go_wp2_with fail
    refine (DrawValidPlanes_any _ _ _ _ _ H.out).mono ?_
    rintro e w1 ⟨a, cap, ll, rfl, ⟨hl, hcap⟩, hlen, hb⟩
    have HB := Lib.hid hb
    have hc1 := hcap.1
    have hc2 := hcap.2
    clear hb hcap
    go_wp2_with fail
    refine (implValidPlanes _ _ _ _ _ _ hl).mono ?_
    rintro e w' ⟨rfl, rfl⟩
    go_wp2_with fail
    refine (specValidPlanes _ _ _ _ _ _ hl).mono ?_
    rintro e w' ⟨rfl, rfl⟩
    cases hv : cenB ll 6
    · go_wp2_with fail
      refine (specValidPlanes _ _ _ _ _ _ hl).mono ?_
      rintro e w' ⟨rfl, rfl⟩
      go_wp2_with fail
      go_ret
      exact ⟨by simp [hv], HB.out⟩
    · by_cases h2 : ll.length < 2
      · have h2' : (ll.length : Int) < 2 := by omega
        go_wp2_with fail
        refine (specValidPlanes _ _ _ _ _ _ hl).mono ?_
        rintro e w' ⟨rfl, rfl⟩
        go_wp2_with fail
        go_ret
        exact ⟨by simp [hv], HB.out⟩
      · obtain ⟨b, off, rfl⟩ := hl.addr (by omega)
        have h2' : (2 : Int) ≤ ll.length := by omega
        have e1 : (ll.take (ll.length - 1)).length = ll.length - 1 := by simp
        have e2 : (ll.drop 1).length = ll.length - 1 := by simp
        have T := hl.take (ll.length - 1)
        have V1 : cenB (ll.take (ll.length - 1)) 6 = true := cenB_sub hv (fun x hx => List.mem_of_mem_take hx) (by omega) (by have := (cenB_len hv).2; omega)
        have V2 : cenB (ll.drop 1) 6 = true := cenB_sub hv (fun x hx => List.mem_of_mem_drop hx) (by omega) (by have := (cenB_len hv).2; omega)
        have C1 := Lib.hid fun (c : Nat) (w : World) (T : Lists w 0 w1.heap.size (some ⟨b, off, none⟩) (ll.take (ll.length - 1))) => (show Calls Try.prog 21 #[.slice (some ⟨b, off, none⟩) (ll.length - 1) c] w fun e w' => e = .returned (.bool true) ∧ w = w' from by
          have := implValidPlanes w _ _ _ c _ T
          rw [e1, V1] at this
          exact this)
        have C2 := Lib.hid fun (c : Nat) (w : World) (T : Lists w 0 w1.heap.size (some ⟨b, off + 1, none⟩) (ll.drop 1)) => (show Calls Try.prog 21 #[.slice (some ⟨b, off + 1, none⟩) (ll.length - 1) c] w fun e w' => e = .returned (.bool true) ∧ w = w' from by
          have := implValidPlanes w _ _ _ c _ T
          rw [e2, V2] at this
          exact this)
        clear e1 e2 V1 V2
        go_wp2_with fail
        refine (C1.out _ _ T).mono ?_
        rintro e w' ⟨rfl, rfl⟩
        go_wp2_with fail
        refine (C2.out _ _ (hl.drop 1)).mono ?_
        rintro e w' ⟨rfl, rfl⟩
        go_wp2_with fail
        go_ret
        exact ⟨rfl, HB.out⟩
theorem own : ownKnob Try.prog.godebug = none := by kernel_rfl
theorem laidOut : laidOutB Try.prog = true := by kernel_rfl

set_option maxRecDepth 100000 in
theorem lifted (os : Os) (started : os.Started) (H : Type) (enc : TypeId × Value → H) :
    ReturnsInHanded {} Try.checked os 6 .any (Rows.fnValidPlanesSpec.pre6 enc Try.prog Try.f6 Rows.fnValidPlanesRow.domain false) (Rows.fnValidPlanesSpec.post enc Try.prog Try.f6 false true false false) := by
  refine returnsInHanded_of_change (C := Try.checked) own started (by kernel_rfl) Try.func6
    (ChangeSpec.witness6 (enc := enc) (C := Try.checked) false ⟨#[], #[.slice none 0 0], []⟩ 8 (by kernel_rfl) (by kernel_rfl) (by kernel_rfl) (by kernel_rfl)) ?_
  intro W base args ds gs before hval0 hW hcnd _
  have hval : ∀ (j : Nat) t v, Try.f6.params[j]? = some t → args[j]? = some v → Value.okWide Try.prog W .any base t v := hval0
  have hW' := hW
  obtain ⟨p, q, hA0, hV, rfl, hfz, hnd⟩ := hW
  have hA : DataW.TrodAll enc Try.prog W 0 (fun _ => true) true Try.f6.params.toList args.toList ds p := hA0
  rw [Try.params6] at hA hval
  obtain ⟨v0, vs0, d0, ds0, p0, q0, hargs, rfl, rfl, h0, r0⟩ := trodAll_cons hA
  obtain ⟨rfl, rfl, rfl⟩ := trodAll_nil r0
  obtain rfl : args = #[v0] := by cases args; simp_all
  obtain ⟨rfl, rfl⟩ := trodVars_none hV
  obtain ⟨a0, len0, cap0, rfl⟩ := okWide_slice Try.underlying27 (hval 0 27 v0 rfl rfl)
  have k0 := h0
  have lt0 : ∀ x ∈ p0, x.block < W.heap.size := by obtain ⟨m, hm⟩ := k0; exact DataW.trod_lt m _ _ _ hm
  obtain ⟨z0, w0⟩ : ∃ zs, IsRow .u8 W a0 len0 cap0 zs := by
    obtain ⟨fuel, hf⟩ := h0
    rcases open_ints Try.underlying27 Try.underlying5 (by kernel_rfl) hf with ⟨hcs, _⟩ | ⟨x, l, c, zs, hcs, _, hl, hm, hz, _, hcell, hwz⟩
    · simp [Value.cells] at hcs
      obtain ⟨rfl, rfl, rfl⟩ := hcs
      exact ⟨[], .inl ⟨rfl, rfl, rfl, rfl⟩⟩
    · simp [Value.cells] at hcs
      obtain ⟨rfl, rfl, rfl⟩ := hcs
      exact ⟨zs, .inr ⟨_, rfl, hl, hm, by simpa using hz, hcell, hwz⟩⟩
  clear hA0 hval0
  refine (walk a0 len0 cap0 z0 W w0).mono fun e W' ⟨he, bel⟩ => ?_
  subst he
  exact ⟨_, rfl, _, _, _, [], _, [], hW', trodAll_mk1 (shut_bool Try.underlying4 _), (trodAll_cons_mk (Below.trod laidOut (by kernel_rfl) (of_decide_eq_true (by kernel_rfl)) k0 bel lt0) trodAll_mk0), rfl, bel.frame _, fun h => by cases h⟩

theorem over : Rows.fnValidPlanesRow.holds Try.pinned (OpenSpec.ofChange Rows.fnValidPlanesSpec) :=
  OpenClaim.holds_of_wide 6 Try.f6 rfl rfl rfl rfl rfl rfl rfl ⟨rfl, rfl, rfl, rfl, rfl⟩ rfl rfl rfl rfl rfl (by kernel_rfl) Try.func6 (by kernel_rfl)
    (of_decide_eq_true (by kernel_rfl)) (by unfold Func.isWrapper; first | (rw [if_pos (by decide +kernel)]; kernel_rfl) | (rw [if_neg (by decide +kernel)]; exact ⟨rfl, rfl⟩))
    (fun os started H enc _ => lifted os started H enc)

/-- THE STATEMENT -/
theorem proved : Rows.FnValidPlanesSaid :=
  over
#print axioms proved
end Go.Proofs.Ytjonaolapbnepaa.fnValidPlanes
