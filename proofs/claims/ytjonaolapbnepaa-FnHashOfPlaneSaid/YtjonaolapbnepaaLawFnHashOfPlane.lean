/-
  For all codes: of the planes that the code draws: the bit of a plane in HashOf the plane itself is 1, and HashOf the vector of zeros has all bits. No condition.
-/
import Derived.Test.YtjonaolapbnepaaRows
import Derived.Test.YtjonaolapbnepaaVecTops
import Derived.Test.YtjonaolapbnepaaDrawTops
import Derived.Deep.RegionWith
import Derived.ProofKit
import Derived.OpenShut
import Derived.ShutString
import Derived.ChangeOld
namespace Go.Proofs.Ytjonaolapbnepaa.fnHashOfPlane
open Go.ChangeShapes Go.WideShapes Go.ChangeAt Go.RowKit
set_option linter.unusedVariables false

set_option maxHeartbeats 1000000 in
theorem walk (a0 : Option Addr) (len0 cap0 : Nat) (z0 : List Int) (w : World) (w0 : IsRow .u8 w a0 len0 cap0 z0) :
    Calls Try.prog 8 #[.slice a0 len0 cap0] w fun e w' => e = .returned (.bool true) ∧ Below w.heap.size w w' := by
  by_cases hl : 1048576 < len0
  · clear w0
    go_enter Try.func8, Try.ntmps8
    go_wp2
    go_ret
    exact ⟨rfl, Below.refl _ _⟩
  · have H := Lib.hid (bytes_of_row w0 (by omega))
    clear w0
    go_enter Try.func8, Try.ntmps8
    go_wp2_with fail
    refine (DrawHashOf_any _ _ _ _ _ H.out).mono ?_
    rintro e w1 ⟨a, b, cap, cap', ll, m, rfl, ⟨hl, hcap⟩, ⟨hi, hcap2⟩, hq, hb⟩
    have HB := Lib.hid hb
    have hc1 := hcap.1
    have hc2 := hcap.2
    have hc3 := hcap2.1
    have hc4 := hcap2.2
    have hq1 := hq.1
    clear hb hcap hcap2 hq
    go_wp2_with fail

    refine (implHashOf _ _ _ _ _ _ _ _ _ _ _ hl hi).mono ?_
    rintro e w2 ⟨rfl, hdrw⟩
    replace hl := hl.drawn hdrw
    replace hi := hi.drawn hdrw
    replace HB := Lib.hid (HB.out.trans hdrw.below)
    have HS_w2 := Lib.hid (congrArg Array.size hdrw.heap)
    clear hdrw
    go_wp2_with fail
    refine (specHashOfTop _ _ _ _ _ _ _ _ _ _ _ hl hi).mono ?_
    rintro e w3 ⟨rfl, hdrw⟩
    replace hl := hl.drawn hdrw
    replace hi := hi.drawn hdrw
    replace HB := Lib.hid (HB.out.trans hdrw.below)
    have HS_w3 := Lib.hid (congrArg Array.size hdrw.heap)
    clear hdrw
    by_cases hv : cenB ll 6 = true ∧ vecB m 4 = true
    · have he := hashV_yes hv.1 hv.2
      have hlen := cenB_len hv.1
      have hbd := hash_bd ll m ll.length
      have hsm := hash_small ll m (show ll.length ≤ 20 by omega)
      have V := Lib.hid hv
      clear hv
      rw [he]
      obtain ⟨N, hN⟩ : ∃ N, hash ll m ll.length = N := ⟨_, rfl⟩
      rw [hN] at hsm ⊢
      have hl6 : ll.length ≤ 6 := by omega
      clear hN he hbd
      go_wp2_with fail
      go_loopw [6] (fun i wr => ∃ k : Nat, k ≤ ll.length ∧ i = .int .i64 (k : Int) ∧ Hid (Below w.heap.size w wr) ∧ Hid (Lists wr 0 w1.heap.size a ll)) (fun i _ => ll.length - (intOf i).toNat)
      case atStart => exact ⟨0, Nat.zero_le _, rfl, HB, hl⟩
      case round =>
        obtain ⟨k, hk, rfl, HB, HL⟩ := hrel
        have hl := HL.out
        by_cases hlt : k < ll.length
        · obtain ⟨p, off, ak, ck, rfl, _, _, hc, hx⟩ := hl.at_ hlt
          have VX := cenB_at V.out.1 hlt
          have hvx := hashV_yes V.out.1 VX
          have hsx := hash_small ll (ll.getD k []) (show ll.length ≤ 20 by omega)
          have hsh := hash_shift ll (ll.getD k []) (k + 1) (ll.length - 1 - k)
          rw [show k + 1 + (ll.length - 1 - k) = ll.length by omega] at hsh
          have hodd := hash_odd (dot_self_nonneg (ll.getD k []) (ll.getD k []).length)
          rw [← hsh] at hodd
          obtain ⟨h, hh⟩ : ∃ h, hash ll (ll.getD k []) ll.length = h := ⟨_, rfl⟩
          rw [hh] at hvx hsx hodd
          obtain ⟨x, hx'⟩ : ∃ x, ll.getD k [] = x := ⟨_, rfl⟩
          rw [hx'] at hvx hc hx
          have HV := Lib.hid hvx
          have HOD : ((h / 2 ^ (ll.length - 1 - k)).tmod 2 != 1) = false := by
            rw [Int.tmod_eq_emod_of_nonneg (Int.ediv_nonneg hsx.1 (Int.le_of_lt (Int.pow_pos (by omega)))), hodd]
            rfl
          clear hx' hvx hh hsh hodd VX
          go_wp2_with fail
          refine (implHashOf _ _ _ _ _ _ _ _ _ _ _ hl hx).mono ?_
          rintro e w5 ⟨rfl, hdrw⟩
          replace hl := hl.drawn hdrw
          replace hx := hx.drawn hdrw
          replace hc := hdrw.cell hc
          replace HB := Lib.hid (HB.out.trans hdrw.below)
          have HS_w5 := Lib.hid (congrArg Array.size hdrw.heap)
          clear hdrw
          rw [HV.out]
          go_wp2_with fail
          go_roundw
          case rel => exact ⟨k + 1, by omega, by go_num, HB, hl⟩
          case measure => simp [intOf]; omega
        · have hmk : ∀ w, (Instr.makeSlice 30 (.int .i64 4) (.int .i64 4)).run Try.prog w = .ok (.slice (some ⟨w.heap.size, 0, none⟩) 4 4) (w.alloc (.cells #[.int .i64 0, .int .i64 0, .int .i64 0, .int .i64 0] 3)) := fun _ => by kernel_rfl
          have hiz : Ints (wr.alloc (.cells #[.int .i64 0, .int .i64 0, .int .i64 0, .int .i64 0] 3)).drew 0 (wr.heap.size + 1) (some ⟨wr.heap.size, 0, none⟩) [0, 0, 0, 0] := ((ints_lit wr [0, 0, 0, 0] 3 (by simp) (by simp)).wide (Nat.zero_le _) (Nat.le_refl _)).drawn ⟨1, rfl⟩
          have hlz : Lists (wr.alloc (.cells #[.int .i64 0, .int .i64 0, .int .i64 0, .int .i64 0] 3)).drew 0 w1.heap.size a ll := (hl.below ((Below.refl _ _).alloc (Nat.le_refl _) _)).drawn ⟨1, rfl⟩
          have CZ := implHashOf _ _ _ _ _ a _ cap 4 ll [0, 0, 0, 0] hlz hiz
          rw [hashV_yes V.out.1 (by decide), hash_full (fun j _ => by rw [dot_zeros _ _ (fun j => by rcases j with _ | _ | _ | _ | j <;> simp)]; exact Int.le_refl _)] at CZ
          have HCZ := Lib.hid CZ
          clear CZ hiz hlz
          go_wp2_with fail
          go_region_with (go_at_call 26; refine HCZ.out.mono ?_; rintro e w6 ⟨rfl, hd6⟩; have HD6 := Lib.hid hd6; clear hd6)
          have hp : (2 : Int) ^ ll.length ≤ 64 ∧ (1 : Int) ≤ 2 ^ ll.length := by
            have h6 : (2 : Int) ^ ll.length ≤ 2 ^ 6 := by
              have := Nat.pow_le_pow_right (show 0 < 2 by omega) hl6
              exact_mod_cast this
            have h7 : (2 : Int) ^ 6 = 64 := rfl
            have h8 : (0 : Int) < 2 ^ ll.length := Int.pow_pos (by omega)
            omega
          have e1 : IntKind.i64.wrap ((2 : Int) ^ ll.length) = 2 ^ ll.length := wrap_in (by omega)
          have e2 : IntKind.i64.wrap ((2 : Int) ^ ll.length - 1) = 2 ^ ll.length - 1 := wrap_in (by omega)
          rw [e1, e2]
          clear e1 e2 hp
          go_wp2_with fail
          go_ret
          exact ⟨ret_bool (beq_self_eq_true _), HB.out.trans ((((Below.refl _ _).alloc (by have := HB.out.size; omega) _).drew).trans HD6.out.below)⟩

    · have he : hashV ll m = -1 := by
        cases h1 : cenB ll 6
        · exact hashV_no1 h1
        · cases h2 : vecB m 4
          · exact hashV_no2 h2
          · exact absurd ⟨h1, h2⟩ hv
      rw [he]
      go_wp2_with fail
      refine (specHashOfTop _ _ _ _ _ _ _ _ _ _ _ hl hi).mono ?_
      rintro e w4 ⟨rfl, hdrw⟩
      replace hl := hl.drawn hdrw
      replace hi := hi.drawn hdrw
      replace HB := Lib.hid (HB.out.trans hdrw.below)
      have HS_w4 := Lib.hid (congrArg Array.size hdrw.heap)
      clear hdrw
      rw [he]
      go_wp2_with fail
      go_ret
      exact ⟨rfl, HB.out⟩
theorem own : ownKnob Try.prog.godebug = none := by kernel_rfl
theorem laidOut : laidOutB Try.prog = true := by kernel_rfl

set_option maxRecDepth 100000 in
theorem lifted (os : Os) (started : os.Started) (H : Type) (enc : TypeId × Value → H) :
    ReturnsInHanded {} Try.checked os 8 .any (Rows.fnHashOfPlaneSpec.pre6 enc Try.prog Try.f8 Rows.fnHashOfPlaneRow.domain false) (Rows.fnHashOfPlaneSpec.post enc Try.prog Try.f8 false true false false) := by
  refine returnsInHanded_of_change (C := Try.checked) own started (by kernel_rfl) Try.func8
    (ChangeSpec.witness6 (enc := enc) (C := Try.checked) false ⟨#[], #[.slice none 0 0], []⟩ 8 (by kernel_rfl) (by kernel_rfl) (by kernel_rfl) (by kernel_rfl)) ?_
  intro W base args ds gs before hval0 hW hcnd _
  have hval : ∀ (j : Nat) t v, Try.f8.params[j]? = some t → args[j]? = some v → Value.okWide Try.prog W .any base t v := hval0
  have hW' := hW
  obtain ⟨p, q, hA0, hV, rfl, hfz, hnd⟩ := hW
  have hA : DataW.TrodAll enc Try.prog W 0 (fun _ => true) true Try.f8.params.toList args.toList ds p := hA0
  rw [Try.params8] at hA hval
  obtain ⟨v0, vs0, d0, ds0, p0, q0, hargs, rfl, rfl, h0, r0⟩ := trodAll_cons hA
  obtain ⟨rfl, rfl, rfl⟩ := trodAll_nil r0
  obtain rfl : args = #[v0] := by cases args; simp_all
  obtain ⟨rfl, rfl⟩ := trodVars_none hV
  obtain ⟨a0, len0, cap0, rfl⟩ := okWide_slice Try.underlying27 (hval 0 27 v0 rfl rfl)
  have k0 := h0
  have lt0 : ∀ x ∈ p0, x.block < W.heap.size := by obtain ⟨m, hm⟩ := k0; exact DataW.trod_lt m _ _ _ hm
  obtain ⟨z0, w0⟩ : ∃ zs, IsRow .u8 W a0 len0 cap0 zs := by
    obtain ⟨fuel, hf⟩ := h0
    rcases open_ints Try.underlying27 Try.underlying5 (by kernel_rfl) hf with ⟨hcs, _⟩ | ⟨x, l, c, zs, hcs, _, hl, hm, hz, _, hcell, hwz⟩
    · simp [Value.cells] at hcs
      obtain ⟨rfl, rfl, rfl⟩ := hcs
      exact ⟨[], .inl ⟨rfl, rfl, rfl, rfl⟩⟩
    · simp [Value.cells] at hcs
      obtain ⟨rfl, rfl, rfl⟩ := hcs
      exact ⟨zs, .inr ⟨_, rfl, hl, hm, by simpa using hz, hcell, hwz⟩⟩
  clear hA0 hval0
  refine (walk a0 len0 cap0 z0 W w0).mono fun e W' ⟨he, bel⟩ => ?_
  subst he
  exact ⟨_, rfl, _, _, _, [], _, [], hW', trodAll_mk1 (shut_bool Try.underlying4 _), (trodAll_cons_mk (Below.trod laidOut (by kernel_rfl) (of_decide_eq_true (by kernel_rfl)) k0 bel lt0) trodAll_mk0), rfl, bel.frame _, fun h => by cases h⟩

theorem over : Rows.fnHashOfPlaneRow.holds Try.pinned (OpenSpec.ofChange Rows.fnHashOfPlaneSpec) :=
  OpenClaim.holds_of_wide 8 Try.f8 rfl rfl rfl rfl rfl rfl rfl ⟨rfl, rfl, rfl, rfl, rfl⟩ rfl rfl rfl rfl rfl (by kernel_rfl) Try.func8 (by kernel_rfl)
    (of_decide_eq_true (by kernel_rfl)) (by unfold Func.isWrapper; first | (rw [if_pos (by decide +kernel)]; kernel_rfl) | (rw [if_neg (by decide +kernel)]; exact ⟨rfl, rfl⟩))
    (fun os started H enc _ => lifted os started H enc)

/-- THE STATEMENT -/
theorem proved : Rows.FnHashOfPlaneSaid :=
  over
#print axioms proved
end Go.Proofs.Ytjonaolapbnepaa.fnHashOfPlane
