/-
  For all codes: of the planes and the vector that the code draws: HashOf twice the vector is HashOf the vector, if twice the vector is valid. No condition.
-/
import Derived.Test.YtjonaolapbnepaaRows
import Derived.Test.YtjonaolapbnepaaVecTops
import Derived.Test.YtjonaolapbnepaaDrawTops
import Derived.ProofKit
import Derived.OpenShut
import Derived.ShutString
import Derived.ChangeOld
namespace Go.Proofs.Ytjonaolapbnepaa.fnHashOfScale
open Go.ChangeShapes Go.WideShapes Go.ChangeAt Go.RowKit
set_option linter.unusedVariables false

set_option maxHeartbeats 1000000 in
theorem walk (a0 : Option Addr) (len0 cap0 : Nat) (z0 : List Int) (w : World) (w0 : IsRow .u8 w a0 len0 cap0 z0) :
    Calls Try.prog 9 #[.slice a0 len0 cap0] w fun e w' => e = .returned (.bool true) ∧ Below w.heap.size w w' := by
  by_cases hl : 1048576 < len0
  · clear w0
    go_enter Try.func9, Try.ntmps9
    go_wp2
    go_ret
    exact ⟨rfl, Below.refl _ _⟩
  · have H := Lib.hid (bytes_of_row w0 (by omega))
    clear w0
    go_enter Try.func9, Try.ntmps9
    go_wp2_with fail
    refine (DrawHashOf_any _ _ _ _ _ H.out).mono ?_
    rintro e w1 ⟨a, b, cap, cap', ll, m, rfl, ⟨hl, hcap⟩, ⟨hi, hcap2⟩, hq, hb⟩
    have HB := Lib.hid hb
    have hc1 := hcap.1
    have hc2 := hcap.2
    have hc3 := hcap2.1
    have hc4 := hcap2.2
    have hq1 := hq.1
    clear hb hcap hcap2 hq
    go_wp2_with fail

    refine (implHashOf _ _ _ _ _ _ _ _ _ _ _ hl hi).mono ?_
    rintro e w2 ⟨rfl, hdrw⟩
    replace hl := hl.drawn hdrw
    replace hi := hi.drawn hdrw
    replace HB := Lib.hid (HB.out.trans hdrw.below)
    have HS_w2 := Lib.hid (congrArg Array.size hdrw.heap)
    clear hdrw
    go_wp2_with fail
    refine (specHashOfTop _ _ _ _ _ _ _ _ _ _ _ hl hi).mono ?_
    rintro e w3 ⟨rfl, hdrw⟩
    replace hl := hl.drawn hdrw
    replace hi := hi.drawn hdrw
    replace HB := Lib.hid (HB.out.trans hdrw.below)
    have HS_w3 := Lib.hid (congrArg Array.size hdrw.heap)
    clear hdrw
    by_cases hv : cenB ll 6 = true ∧ vecB m 4 = true
    · have he := hashV_yes hv.1 hv.2
      have hlen := cenB_len hv.1
      have hbd := hash_bd ll m ll.length
      have hsm := hash_small ll m (show ll.length ≤ 20 by omega)
      have V := Lib.hid hv
      clear hv
      have hm4 := vecB_len V.out.2
      have hmc := Lib.hid (coordsB_at (vecB_coords V.out.2))
      have hm4' : m.length = 4 := by omega
      have HM4 := Lib.hid hm4'
      have hm5 : m.length ≤ 4 := by omega
      have HE := Lib.hid he
      rw [he]
      obtain ⟨N, hN⟩ : ∃ N, hash ll m ll.length = N := ⟨_, rfl⟩
      rw [hN] at hsm ⊢
      have HN := Lib.hid hN
      clear hN he hbd hm4 hm4'
      go_wp2_with fail
      go_loopw [6, 7] (fun v i wr => ∃ k : Nat, k ≤ m.length ∧ i = .int .i64 (k : Int) ∧ Hid (wr.ownsRow w3.heap.size 3 1 v k ((twice (m.take k)).map (Value.int .i64))) ∧ Hid (Below w3.heap.size w3 wr) ∧ w3.heap.size ≤ wr.heap.size) (fun _ i _ => m.length - (intOf i).toNat)
      case atStart => exact ⟨0, Nat.zero_le _, rfl, owns_empty _ _ _ _ (Nat.le_refl _), (Below.refl _ _).alloc (Nat.le_refl _) _, by simp⟩
      case round =>
        obtain ⟨k, hk, rfl, HO, HW, hsz⟩ := hrel
        by_cases hlt : k < m.length
        · obtain ⟨p, off, rfl, _, _, hc, _⟩ := (hi.below HW.out).at_ hlt
          have hx := hmc.out k
          have HT := Lib.hid (twice_snoc hlt)
          obtain ⟨x, ex⟩ : ∃ x, m.getD k 0 = x := ⟨_, rfl⟩
          rw [ex] at hc hx HT
          clear ex
          go_wp2_with (at_builtin; refine append1 rfl _ _ 30 rfl w3.heap.size 3 Try.underlying30 infoInt rfl (by omega) (by omega) _ k ((twice (m.take k)).map (Value.int .i64)) rfl HO.out [.int .i64 (2 * x)] rfl rfl (ints_cells [2 * x]) (by omega) (by omega) ?_; intro v' w5 hown5 hg5; have HO5 := Lib.hid hown5; have HG5 := Lib.hid hg5; clear hown5 hg5)
          have hs5 := HG5.out.size
          go_roundw
          case rel => exact ⟨k + 1, by omega, by go_num, by rw [HT.out, List.map_append]; exact HO5.out, HW.out.grown HG5.out hsz (owns_block HO.out), by omega⟩
          case measure => simp [intOf]; omega
        · have HK := Lib.hid (show k = m.length by omega)
          obtain ⟨a6, cap6, hv6, hi6⟩ := ints_of_owns (l := twice m) (by have := HO.out; rw [HK.out, List.take_length] at this; exact this) (twice_ok (vecB_coords V.out.2)) (by omega)
          have HB6 : Hid (Below w.heap.size w wr) := Lib.hid (HB.out.trans (HW.out.mono (by have := HB.out.size; omega)))
          have hl6 := hl.below HW.out
          clear HB
          have HB := HB6
          subst hv6
          cases hv2 : vecB (twice m) 4
          · go_wp2_with fail
            refine (implValidVector _ _ _ _ _ _ hi6).mono ?_
            rintro e w' ⟨rfl, rfl⟩
            go_wp2_with fail
            go_ret
            exact ⟨rfl, HB.out⟩
          · have HH := Lib.hid (show hashV ll (twice m) = N by rw [hashV_yes V.out.1 hv2, hash_twice]; exact HN.out)
            go_wp2_with fail
            refine (implValidVector _ _ _ _ _ _ hi6).mono ?_
            rintro e w' ⟨rfl, rfl⟩
            go_wp2_with fail
            refine (implHashOf _ _ _ _ _ _ _ _ _ _ _ hl6 hi6).mono ?_
            rintro e w7 ⟨rfl, hdrw⟩
            replace HB := Lib.hid (HB.out.trans hdrw.below)
            have HS_w7 := Lib.hid (congrArg Array.size hdrw.heap)
            clear hdrw
            rw [HH.out]
            go_wp2_with fail
            go_ret
            exact ⟨by simp, HB.out⟩

    · have he : hashV ll m = -1 := by
        cases h1 : cenB ll 6
        · exact hashV_no1 h1
        · cases h2 : vecB m 4
          · exact hashV_no2 h2
          · exact absurd ⟨h1, h2⟩ hv
      rw [he]
      go_wp2_with fail
      refine (specHashOfTop _ _ _ _ _ _ _ _ _ _ _ hl hi).mono ?_
      rintro e w4 ⟨rfl, hdrw⟩
      replace hl := hl.drawn hdrw
      replace hi := hi.drawn hdrw
      replace HB := Lib.hid (HB.out.trans hdrw.below)
      have HS_w4 := Lib.hid (congrArg Array.size hdrw.heap)
      clear hdrw
      rw [he]
      go_wp2_with fail
      go_ret
      exact ⟨rfl, HB.out⟩
theorem own : ownKnob Try.prog.godebug = none := by kernel_rfl
theorem laidOut : laidOutB Try.prog = true := by kernel_rfl

set_option maxRecDepth 100000 in
theorem lifted (os : Os) (started : os.Started) (H : Type) (enc : TypeId × Value → H) :
    ReturnsInHanded {} Try.checked os 9 .any (Rows.fnHashOfScaleSpec.pre6 enc Try.prog Try.f9 Rows.fnHashOfScaleRow.domain false) (Rows.fnHashOfScaleSpec.post enc Try.prog Try.f9 false true false false) := by
  refine returnsInHanded_of_change (C := Try.checked) own started (by kernel_rfl) Try.func9
    (ChangeSpec.witness6 (enc := enc) (C := Try.checked) false ⟨#[], #[.slice none 0 0], []⟩ 8 (by kernel_rfl) (by kernel_rfl) (by kernel_rfl) (by kernel_rfl)) ?_
  intro W base args ds gs before hval0 hW hcnd _
  have hval : ∀ (j : Nat) t v, Try.f9.params[j]? = some t → args[j]? = some v → Value.okWide Try.prog W .any base t v := hval0
  have hW' := hW
  obtain ⟨p, q, hA0, hV, rfl, hfz, hnd⟩ := hW
  have hA : DataW.TrodAll enc Try.prog W 0 (fun _ => true) true Try.f9.params.toList args.toList ds p := hA0
  rw [Try.params9] at hA hval
  obtain ⟨v0, vs0, d0, ds0, p0, q0, hargs, rfl, rfl, h0, r0⟩ := trodAll_cons hA
  obtain ⟨rfl, rfl, rfl⟩ := trodAll_nil r0
  obtain rfl : args = #[v0] := by cases args; simp_all
  obtain ⟨rfl, rfl⟩ := trodVars_none hV
  obtain ⟨a0, len0, cap0, rfl⟩ := okWide_slice Try.underlying27 (hval 0 27 v0 rfl rfl)
  have k0 := h0
  have lt0 : ∀ x ∈ p0, x.block < W.heap.size := by obtain ⟨m, hm⟩ := k0; exact DataW.trod_lt m _ _ _ hm
  obtain ⟨z0, w0⟩ : ∃ zs, IsRow .u8 W a0 len0 cap0 zs := by
    obtain ⟨fuel, hf⟩ := h0
    rcases open_ints Try.underlying27 Try.underlying5 (by kernel_rfl) hf with ⟨hcs, _⟩ | ⟨x, l, c, zs, hcs, _, hl, hm, hz, _, hcell, hwz⟩
    · simp [Value.cells] at hcs
      obtain ⟨rfl, rfl, rfl⟩ := hcs
      exact ⟨[], .inl ⟨rfl, rfl, rfl, rfl⟩⟩
    · simp [Value.cells] at hcs
      obtain ⟨rfl, rfl, rfl⟩ := hcs
      exact ⟨zs, .inr ⟨_, rfl, hl, hm, by simpa using hz, hcell, hwz⟩⟩
  clear hA0 hval0
  refine (walk a0 len0 cap0 z0 W w0).mono fun e W' ⟨he, bel⟩ => ?_
  subst he
  exact ⟨_, rfl, _, _, _, [], _, [], hW', trodAll_mk1 (shut_bool Try.underlying4 _), (trodAll_cons_mk (Below.trod laidOut (by kernel_rfl) (of_decide_eq_true (by kernel_rfl)) k0 bel lt0) trodAll_mk0), rfl, bel.frame _, fun h => by cases h⟩

theorem over : Rows.fnHashOfScaleRow.holds Try.pinned (OpenSpec.ofChange Rows.fnHashOfScaleSpec) :=
  OpenClaim.holds_of_wide 9 Try.f9 rfl rfl rfl rfl rfl rfl rfl ⟨rfl, rfl, rfl, rfl, rfl⟩ rfl rfl rfl rfl rfl (by kernel_rfl) Try.func9 (by kernel_rfl)
    (of_decide_eq_true (by kernel_rfl)) (by unfold Func.isWrapper; first | (rw [if_pos (by decide +kernel)]; kernel_rfl) | (rw [if_neg (by decide +kernel)]; exact ⟨rfl, rfl⟩))
    (fun os started H enc _ => lifted os started H enc)

/-- THE STATEMENT -/
theorem proved : Rows.FnHashOfScaleSaid :=
  over
#print axioms proved
end Go.Proofs.Ytjonaolapbnepaa.fnHashOfScale
