/-
  For all codes: of the planes and the vector that the code draws: HashOf is what the reference says, and twice HashOf for all planes but the last one, plus 1 if DotOf the last one is not negative. No condition.
-/
import Derived.Test.YtjonaolapbnepaaRows
import Derived.Test.YtjonaolapbnepaaVecTops
import Derived.Test.YtjonaolapbnepaaDrawTops
import Derived.ProofKit
import Derived.OpenShut
import Derived.ShutString
import Derived.ChangeOld
namespace Go.Proofs.Ytjonaolapbnepaa.fnHashOf
open Go.ChangeShapes Go.WideShapes Go.ChangeAt Go.RowKit
set_option linter.unusedVariables false

set_option maxHeartbeats 1000000 in
theorem walk (a0 : Option Addr) (len0 cap0 : Nat) (z0 : List Int) (w : World) (w0 : IsRow .u8 w a0 len0 cap0 z0) :
    Calls Try.prog 10 #[.slice a0 len0 cap0] w fun e w' => e = .returned (.bool true) ∧ Below w.heap.size w w' := by
  by_cases hl : 1048576 < len0
  · clear w0
    go_enter Try.func10, Try.ntmps10
    go_wp2
    go_ret
    exact ⟨rfl, Below.refl _ _⟩
  · have H := Lib.hid (bytes_of_row w0 (by omega))
    clear w0
    go_enter Try.func10, Try.ntmps10
    go_wp2_with fail
    refine (DrawHashOf_any _ _ _ _ _ H.out).mono ?_
    rintro e w1 ⟨a, b, cap, cap', ll, m, rfl, ⟨hl, hcap⟩, ⟨hi, hcap2⟩, hq, hb⟩
    have HB := Lib.hid hb
    have hc1 := hcap.1
    have hc2 := hcap.2
    have hc3 := hcap2.1
    have hc4 := hcap2.2
    have hq1 := hq.1
    clear hb hcap hcap2 hq
    go_wp2_with fail

    refine (implHashOf _ _ _ _ _ _ _ _ _ _ _ hl hi).mono ?_
    rintro e w2 ⟨rfl, hdrw⟩
    replace hl := hl.drawn hdrw
    replace hi := hi.drawn hdrw
    replace HB := Lib.hid (HB.out.trans hdrw.below)
    have HS_w2 := Lib.hid (congrArg Array.size hdrw.heap)
    clear hdrw
    go_wp2_with fail
    refine (specHashOfTop _ _ _ _ _ _ _ _ _ _ _ hl hi).mono ?_
    rintro e w3 ⟨rfl, hdrw⟩
    replace hl := hl.drawn hdrw
    replace hi := hi.drawn hdrw
    replace HB := Lib.hid (HB.out.trans hdrw.below)
    have HS_w3 := Lib.hid (congrArg Array.size hdrw.heap)
    clear hdrw
    by_cases hv : cenB ll 6 = true ∧ vecB m 4 = true
    · have he := hashV_yes hv.1 hv.2
      have hlen := cenB_len hv.1
      have hbd := hash_bd ll m ll.length
      have hsm := hash_small ll m (show ll.length ≤ 20 by omega)
      have V := Lib.hid hv
      clear hv
      by_cases h2 : ll.length < 2
      · have h2' : (ll.length : Int) < 2 := by omega
        rw [he]
        go_wp2_with fail
        refine (specHashOfTop _ _ _ _ _ _ _ _ _ _ _ hl hi).mono ?_
        rintro e w4 ⟨rfl, hdrw⟩
        replace hl := hl.drawn hdrw
        replace hi := hi.drawn hdrw
        replace HB := Lib.hid (HB.out.trans hdrw.below)
        have HS_w4 := Lib.hid (congrArg Array.size hdrw.heap)
        clear hdrw
        rw [he]
        go_wp2_with fail
        go_ret
        exact ⟨by simp, HB.out⟩
      · obtain ⟨p, off, rfl⟩ := hl.addr (by omega)
        have h2' : (2 : Int) ≤ ll.length := by omega
        have e1 : (ll.take (ll.length - 1)).length = ll.length - 1 := by simp
        have V1 : cenB (ll.take (ll.length - 1)) 6 = true := cenB_sub V.out.1 (fun x hx => List.mem_of_mem_take hx) (by omega) (by have := hlen.2; omega)
        have hs1 : hashV (ll.take (ll.length - 1)) m = hash ll m (ll.length - 1) := by rw [hashV_yes V1 V.out.2, hash_take ll m _ (by omega)]
        obtain ⟨s, hs⟩ : ∃ s, hash ll m (ll.length - 1) = s := ⟨_, rfl⟩
        have hlast : ll.length - 1 < ll.length := by omega
        obtain ⟨p', off', ak, ck, he', _, _, hc, hx⟩ := hl.at_ hlast
        simp only [Option.some.injEq, Addr.mk.injEq] at he'
        obtain ⟨rfl, rfl, _⟩ := he'
        have VX := Lib.hid (cenB_at V.out.1 hlast)
        obtain ⟨x, ex⟩ : ∃ x, ll.getD (ll.length - 1) [] = x := ⟨_, rfl⟩
        have hyes := Lib.hid (hash_yes hs ex)
        have hno := Lib.hid (hash_no hs ex)
        rw [show ll.length - 1 + 1 = ll.length by omega] at hyes hno
        have hss := hash_small ll m (show ll.length - 1 ≤ 20 by omega)
        have hs6 : hash ll m ll.length ≤ 63 := by
          have h6 : (2 : Int) ^ ll.length ≤ 2 ^ 6 := by
            have := Nat.pow_le_pow_right (show 0 < 2 by omega) (show ll.length ≤ 6 by omega)
            exact_mod_cast this
          have h7 : (2 : Int) ^ 6 = 64 := rfl
          omega
        rw [hs] at hss hs1
        rw [ex] at hc hx VX
        clear ex hs hbd
        have C1 := Lib.hid (show Calls Try.prog 26 #[.slice (some ⟨p, off, none⟩) (ll.length - 1) cap, .slice b m.length cap'] w3 fun e w' => e = .returned (.int .i64 s) ∧ Drawn w3 w' from by
          have := implHashOf w3 _ _ _ _ _ _ cap cap' _ m (hl.take (ll.length - 1)) hi
          rw [e1, hs1] at this
          exact this)
        clear e1 V1 hs1
        by_cases hd : 0 ≤ dot x m x.length
        · have hN := hyes.out hd
          rw [hN] at hs6 hsm
          rw [he, hN]
          clear hN hyes hno he
          go_wp2_with fail
          refine (C1.out).mono ?_
          rintro e w5 ⟨rfl, hdrw⟩
          replace hl := hl.drawn hdrw
          replace hi := hi.drawn hdrw
          replace hx := hx.drawn hdrw
          replace hc := hdrw.cell hc
          replace HB := Lib.hid (HB.out.trans hdrw.below)
          have HS_w5 := Lib.hid (congrArg Array.size hdrw.heap)
          clear hdrw
          go_wp2_with fail
          refine (implDotOf _ _ _ _ _ _ _ _ _ _ _ hx hi VX.out V.out.2).mono ?_
          rintro e w' ⟨rfl, rfl⟩
          have hN2 : s * 2 + 1 = 2 * s + 1 := by omega
          rw [hN2]
          clear hN2
          go_wp2_with fail
          go_ret
          exact ⟨by simp; omega, HB.out⟩
        · have hN := hno.out hd
          rw [hN] at hs6 hsm
          rw [he, hN]
          clear hN hyes hno he
          go_wp2_with fail
          refine (C1.out).mono ?_
          rintro e w5 ⟨rfl, hdrw⟩
          replace hl := hl.drawn hdrw
          replace hi := hi.drawn hdrw
          replace hx := hx.drawn hdrw
          replace hc := hdrw.cell hc
          replace HB := Lib.hid (HB.out.trans hdrw.below)
          have HS_w5 := Lib.hid (congrArg Array.size hdrw.heap)
          clear hdrw
          go_wp2_with fail
          refine (implDotOf _ _ _ _ _ _ _ _ _ _ _ hx hi VX.out V.out.2).mono ?_
          rintro e w' ⟨rfl, rfl⟩
          have hN2 : s * 2 = 2 * s := by omega
          rw [hN2]
          clear hN2
          go_wp2_with fail
          go_ret
          exact ⟨by simp; omega, HB.out⟩

    · have he : hashV ll m = -1 := by
        cases h1 : cenB ll 6
        · exact hashV_no1 h1
        · cases h2 : vecB m 4
          · exact hashV_no2 h2
          · exact absurd ⟨h1, h2⟩ hv
      rw [he]
      go_wp2_with fail
      refine (specHashOfTop _ _ _ _ _ _ _ _ _ _ _ hl hi).mono ?_
      rintro e w4 ⟨rfl, hdrw⟩
      replace hl := hl.drawn hdrw
      replace hi := hi.drawn hdrw
      replace HB := Lib.hid (HB.out.trans hdrw.below)
      have HS_w4 := Lib.hid (congrArg Array.size hdrw.heap)
      clear hdrw
      rw [he]
      go_wp2_with fail
      go_ret
      exact ⟨rfl, HB.out⟩
theorem own : ownKnob Try.prog.godebug = none := by kernel_rfl
theorem laidOut : laidOutB Try.prog = true := by kernel_rfl

set_option maxRecDepth 100000 in
theorem lifted (os : Os) (started : os.Started) (H : Type) (enc : TypeId × Value → H) :
    ReturnsInHanded {} Try.checked os 10 .any (Rows.fnHashOfSpec.pre6 enc Try.prog Try.f10 Rows.fnHashOfRow.domain false) (Rows.fnHashOfSpec.post enc Try.prog Try.f10 false true false false) := by
  refine returnsInHanded_of_change (C := Try.checked) own started (by kernel_rfl) Try.func10
    (ChangeSpec.witness6 (enc := enc) (C := Try.checked) false ⟨#[], #[.slice none 0 0], []⟩ 8 (by kernel_rfl) (by kernel_rfl) (by kernel_rfl) (by kernel_rfl)) ?_
  intro W base args ds gs before hval0 hW hcnd _
  have hval : ∀ (j : Nat) t v, Try.f10.params[j]? = some t → args[j]? = some v → Value.okWide Try.prog W .any base t v := hval0
  have hW' := hW
  obtain ⟨p, q, hA0, hV, rfl, hfz, hnd⟩ := hW
  have hA : DataW.TrodAll enc Try.prog W 0 (fun _ => true) true Try.f10.params.toList args.toList ds p := hA0
  rw [Try.params10] at hA hval
  obtain ⟨v0, vs0, d0, ds0, p0, q0, hargs, rfl, rfl, h0, r0⟩ := trodAll_cons hA
  obtain ⟨rfl, rfl, rfl⟩ := trodAll_nil r0
  obtain rfl : args = #[v0] := by cases args; simp_all
  obtain ⟨rfl, rfl⟩ := trodVars_none hV
  obtain ⟨a0, len0, cap0, rfl⟩ := okWide_slice Try.underlying27 (hval 0 27 v0 rfl rfl)
  have k0 := h0
  have lt0 : ∀ x ∈ p0, x.block < W.heap.size := by obtain ⟨m, hm⟩ := k0; exact DataW.trod_lt m _ _ _ hm
  obtain ⟨z0, w0⟩ : ∃ zs, IsRow .u8 W a0 len0 cap0 zs := by
    obtain ⟨fuel, hf⟩ := h0
    rcases open_ints Try.underlying27 Try.underlying5 (by kernel_rfl) hf with ⟨hcs, _⟩ | ⟨x, l, c, zs, hcs, _, hl, hm, hz, _, hcell, hwz⟩
    · simp [Value.cells] at hcs
      obtain ⟨rfl, rfl, rfl⟩ := hcs
      exact ⟨[], .inl ⟨rfl, rfl, rfl, rfl⟩⟩
    · simp [Value.cells] at hcs
      obtain ⟨rfl, rfl, rfl⟩ := hcs
      exact ⟨zs, .inr ⟨_, rfl, hl, hm, by simpa using hz, hcell, hwz⟩⟩
  clear hA0 hval0
  refine (walk a0 len0 cap0 z0 W w0).mono fun e W' ⟨he, bel⟩ => ?_
  subst he
  exact ⟨_, rfl, _, _, _, [], _, [], hW', trodAll_mk1 (shut_bool Try.underlying4 _), (trodAll_cons_mk (Below.trod laidOut (by kernel_rfl) (of_decide_eq_true (by kernel_rfl)) k0 bel lt0) trodAll_mk0), rfl, bel.frame _, fun h => by cases h⟩

theorem over : Rows.fnHashOfRow.holds Try.pinned (OpenSpec.ofChange Rows.fnHashOfSpec) :=
  OpenClaim.holds_of_wide 10 Try.f10 rfl rfl rfl rfl rfl rfl rfl ⟨rfl, rfl, rfl, rfl, rfl⟩ rfl rfl rfl rfl rfl (by kernel_rfl) Try.func10 (by kernel_rfl)
    (of_decide_eq_true (by kernel_rfl)) (by unfold Func.isWrapper; first | (rw [if_pos (by decide +kernel)]; kernel_rfl) | (rw [if_neg (by decide +kernel)]; exact ⟨rfl, rfl⟩))
    (fun os started H enc _ => lifted os started H enc)

/-- THE STATEMENT -/
theorem proved : Rows.FnHashOfSaid :=
  over
#print axioms proved
end Go.Proofs.Ytjonaolapbnepaa.fnHashOf
