/-
  For all codes: of the centres, the store, the vector and the number that the code draws: ProbeCost is what the reference says: the number of the centres and of the items of the probed lists, at most of all. No condition.
-/
import Derived.Test.YtmpoljhdcgdnnaaRows
import Derived.Test.YtmpoljhdcgdnnaaCostSpec
import Derived.Test.YtmpoljhdcgdnnaaCostPlain
import Derived.Test.YtmpoljhdcgdnnaaDrawProbe
import Derived.Test.YtmpoljhdcgdnnaaListsOfWalks
import Derived.ProofKit
import Derived.OpenShut
import Derived.ShutString
import Derived.ChangeOld
namespace Go.Proofs.Ytmpoljhdcgdnnaa.fnProbeCost
open Go.ChangeShapes Go.WideShapes Go.ChangeAt Go.RowKit
set_option linter.unusedVariables false

set_option maxHeartbeats 1000000 in
theorem walk (a0 : Option Addr) (len0 cap0 : Nat) (z0 : List Int) (w : World) (w0 : IsRow .u8 w a0 len0 cap0 z0) :
    Calls Try.prog 11 #[.slice a0 len0 cap0] w fun e w' => e = .returned (.bool true) ∧ Below w.heap.size w w' := by
  by_cases hl : 1048576 < len0
  · clear w0
    go_enter Try.func11, Try.ntmps11
    go_wp2
    go_ret
    exact ⟨rfl, Below.refl _ _⟩
  · have H := Lib.hid (bytes_of_row w0 (by omega))
    clear w0
    go_enter Try.func11, Try.ntmps11
    go_wp2_with fail
    refine (DrawProbeCost_any _ _ _ _ _ H.out).mono ?_
    rintro e w1 ⟨a, b, p, cap, cap', capp, cs, ll, m, k, rfl, ⟨hl, hcap⟩, ⟨hi, hcap2⟩, ⟨hm, hcap3⟩, hq, hk, hb⟩
    have HB := Lib.hid hb
    have hc1 := hcap.1
    have hc2 := hcap.2
    have hc3 := hcap2.1
    have hc4 := hcap2.2
    have hc5 := hcap3.1
    have hc6 := hcap3.2
    have hq1 := hq.1
    have hq2 := hq.2.1
    clear hb hcap hcap2 hcap3 hq
    go_wp2_with fail
    refine (implCost _ _ _ _ _ _ _ _ _ _ _ _ _ k cs ll m hl hi hm).mono ?_
    rintro e w2 ⟨rfl, hmk⟩
    replace hl := hl.below hmk
    replace hi := hi.below hmk
    replace hm := hm.below hmk
    replace HB := Lib.hid (HB.out.trans (hmk.mono HB.out.size))
    clear hmk
    go_wp2_with fail
    refine (specCost _ _ _ _ _ _ _ _ _ _ _ _ _ k cs ll m hl hi hm).mono ?_
    rintro e w3 ⟨rfl, hmk⟩
    replace hl := hl.below hmk
    replace hi := hi.below hmk
    replace hm := hm.below hmk
    replace HB := Lib.hid (HB.out.trans (hmk.mono HB.out.size))
    clear hmk
    cases hv : costB cs ll m k
    · have e := costV_no hv
      rw [e]
      go_wp2_with fail
      refine (specCost _ _ _ _ _ _ _ _ _ _ _ _ _ k cs ll m hl hi hm).mono ?_
      rintro e w4 ⟨rfl, hmk⟩
      replace hl := hl.below hmk
      replace hi := hi.below hmk
      replace hm := hm.below hmk
      replace HB := Lib.hid (HB.out.trans (hmk.mono HB.out.size))
      clear hmk
      rw [e]
      clear e
      go_wp2_with fail
      go_ret
      exact ⟨rfl, HB.out⟩
    · have HE := Lib.hid (costV_yes hv)
      have HV := Lib.hid hv
      have h1 := costB_cen hv
      have h2 := qryB_store (costB_qry hv)
      have hkn := costB_num hv
      have hp := prbV_yes h1 (qryB_vec (costB_qry hv)) hkn
      have hls := lstV_yes (csB_mk h1 h2)
      have hl16 := storeB_len h2
      obtain ⟨n, rfl⟩ : ∃ n : Nat, k = (n : Int) := ⟨k.toNat, by omega⟩
      rw [Int.toNat_natCast] at hp HE
      have HP := Lib.hid hp
      have HLS := Lib.hid hls
      have hpl : (prdI cs m n ll).length ≤ ll.length := selI_le _ _ _
      obtain ⟨v, ev⟩ : ∃ v, costV cs ll m (n : Int) = v := ⟨_, rfl⟩
      rw [ev] at HE ⊢
      have h0 : 0 ≤ v := by have := HE.out; omega
      have hd0 : decide (v < 0) = false := decide_eq_false (by omega)
      have hvm : decide (v ≤ (cs.length : Int) + (ll.length : Int)) = true := decide_eq_true (by have := HE.out; omega)
      have hvv : (v == v) = true := beq_self_eq_true _
      clear ev hv hp hls h0
      go_wp2_with fail
      refine (implListsOf_read _ _ _ _ _ _ _ _ _ cs ll hl hi).mono ?_
      rintro e w4 ⟨g, gc, rfl, hg, hgc, hmk⟩
      replace hl := hl.below hmk
      replace hi := hi.below hmk
      replace hm := hm.below hmk
      replace HB := Lib.hid (HB.out.trans (hmk.mono HB.out.size))
      clear hmk
      go_wp2_with fail
      refine (implProbe_read _ _ _ _ _ _ _ _ _ (n : Int) cs m hl hm).mono ?_
      rintro e w5 ⟨g5, gc5, rfl, hg5, hgc5, hmk⟩
      replace hl := hl.below hmk
      replace hi := hi.below hmk
      replace hm := hm.below hmk
      replace hg := hg.below hmk
      replace HB := Lib.hid (HB.out.trans (hmk.mono HB.out.size))
      clear hmk
      have HLN : Hid ((lstV cs ll).length = cs.length) := Lib.hid (by rw [HLS.out, lstT_length])
      have HOW : Hid (∀ c, c < cs.length → (lstV cs ll).getD c [] = ownK cs ll c ll.length) := Lib.hid (fun c hc => by rw [HLS.out, lstT_get hc])
      have HGET : Hid (∀ i, i < (prbL cs m n).length → ∃ c : Nat, c < cs.length ∧ (prbL cs m n).getD i 0 = (c : Int)) := Lib.hid (fun i hi => by obtain ⟨c, q1, q2, _⟩ := prbL_get hi; exact ⟨c, q1, q2⟩)
      have HSTEP : Hid (∀ i c : Nat, i < (prbL cs m n).length → (prbL cs m n).getD i 0 = (c : Int) → (selI cs ((prbL cs m n).take (i + 1)) ll).length = (selI cs ((prbL cs m n).take i) ll).length + (ownK cs ll c ll.length).length) := Lib.hid (fun i c hi hc => cost_step hi hc)
      have HEND : Hid ((selI cs ((prbL cs m n).take (prbL cs m n).length) ll).length = (prdI cs m n ll).length) := Lib.hid (by rw [List.take_length]; rfl)
      have HLE : Hid (∀ i, (selI cs ((prbL cs m n).take i) ll).length ≤ 16) := Lib.hid (fun i => Nat.le_trans (selI_le _ _ _) hl16)
      have HOL : Hid (∀ c, (ownK cs ll c ll.length).length ≤ 16) := Lib.hid (fun c => Nat.le_trans (ownK_len _ _ _ _) hl16)
      have hpl4 : (prbL cs m n).length ≤ 4 := by rw [prbL_length]; omega
      rw [HP.out] at hg5 hgc5 ⊢
      obtain ⟨L, eL⟩ : ∃ L, prbL cs m n = L := ⟨_, rfl⟩
      rw [eL] at hg5 hgc5 HGET HSTEP HEND HLE hpl4 ⊢
      obtain ⟨T, eT⟩ : ∃ T, lstV cs ll = T := ⟨_, rfl⟩
      rw [eT] at hg hgc HLN HOW ⊢
      rw [HLN.out] at hgc ⊢
      clear eL eT HP HLS h1 h2 hkn hk hgc5
      have hcl4 : cs.length ≤ 10 := hq1
      go_wp2_with fail
      go_loop [10, 11] (fun x i => ∃ j : Nat, j ≤ L.length ∧ x = .int .i64 ((cs.length : Int) + ((selI cs (L.take j) ll).length : Int)) ∧ i = .int .i64 (j : Int)) (fun _ i => L.length - (intOf i).toNat)
      case atStart => exact ⟨0, Nat.zero_le _, int_eq (by rw [List.take_zero, selI_nil]; simp), rfl⟩
      case round =>
        obtain ⟨j, hj, rfl, rfl⟩ := hrel
        by_cases hlt : j < L.length
        · obtain ⟨q, off, rfl, _, _, c0, _⟩ := hg5.at_ hlt
          obtain ⟨c, hc, ec⟩ := HGET.out j hlt
          rw [ec] at c0
          have HS2 := Lib.hid (HSTEP.out j c hlt ec)
          have hle := HLE.out j
          have hol := HOL.out c
          have eo := HOW.out c hc
          obtain ⟨tb, to, ta, tc, rfl, _, _, t0, _⟩ := hg.at_ (k := c) (by rw [HLN.out]; exact hc)
          rw [eo] at t0
          obtain ⟨z, ez⟩ : ∃ z, (ownK cs ll c ll.length).length = z := ⟨_, rfl⟩
          obtain ⟨s, es⟩ : ∃ s, (selI cs (L.take j) ll).length = s := ⟨_, rfl⟩
          rw [ez] at t0 hol HS2
          rw [es] at hle HS2 ⊢
          have hji : (j : Int) < L.length := by omega
          have hci : (c : Int) < cs.length := by omega
          have hcd : decide ((cs.length : Int) ≤ (c : Int)) = false := decide_eq_false (by omega)
          have hcd2 : decide (cs.length ≤ c) = false := decide_eq_false (by omega)
          clear ez es eo ec
          go_wp2_with fail
          go_round
          case rel => exact ⟨j + 1, by omega, int_eq (by have h := HS2.out; omega), by go_num⟩
          case measure => simp [intOf]; omega
        · have hje : j = L.length := by omega
          subst hje
          have HEQ : Hid ((cs.length : Int) + ((selI cs (L.take L.length) ll).length : Int) = v) := Lib.hid (by rw [HEND.out, HE.out])
          rw [HEQ.out]
          go_wp2_with fail
          go_ret
          exact ⟨rfl, HB.out⟩
theorem own : ownKnob Try.prog.godebug = none := by kernel_rfl
theorem laidOut : laidOutB Try.prog = true := by kernel_rfl

set_option maxRecDepth 100000 in
theorem lifted (os : Os) (started : os.Started) (H : Type) (enc : TypeId × Value → H) :
    ReturnsInHanded {} Try.checked os 11 .any (Rows.fnProbeCostSpec.pre6 enc Try.prog Try.f11 Rows.fnProbeCostRow.domain false) (Rows.fnProbeCostSpec.post enc Try.prog Try.f11 false true false false) := by
  refine returnsInHanded_of_change (C := Try.checked) own started (by kernel_rfl) Try.func11
    (ChangeSpec.witness6 (enc := enc) (C := Try.checked) false ⟨#[], #[.slice none 0 0], []⟩ 8 (by kernel_rfl) (by kernel_rfl) (by kernel_rfl) (by kernel_rfl)) ?_
  intro W base args ds gs before hval0 hW hcnd _
  have hval : ∀ (j : Nat) t v, Try.f11.params[j]? = some t → args[j]? = some v → Value.okWide Try.prog W .any base t v := hval0
  have hW' := hW
  obtain ⟨p, q, hA0, hV, rfl, hfz, hnd⟩ := hW
  have hA : DataW.TrodAll enc Try.prog W 0 (fun _ => true) true Try.f11.params.toList args.toList ds p := hA0
  rw [Try.params11] at hA hval
  obtain ⟨v0, vs0, d0, ds0, p0, q0, hargs, rfl, rfl, h0, r0⟩ := trodAll_cons hA
  obtain ⟨rfl, rfl, rfl⟩ := trodAll_nil r0
  obtain rfl : args = #[v0] := by cases args; simp_all
  obtain ⟨rfl, rfl⟩ := trodVars_none hV
  obtain ⟨a0, len0, cap0, rfl⟩ := okWide_slice Try.underlying22 (hval 0 22 v0 rfl rfl)
  have k0 := h0
  have lt0 : ∀ x ∈ p0, x.block < W.heap.size := by obtain ⟨m, hm⟩ := k0; exact DataW.trod_lt m _ _ _ hm
  obtain ⟨z0, w0⟩ : ∃ zs, IsRow .u8 W a0 len0 cap0 zs := by
    obtain ⟨fuel, hf⟩ := h0
    rcases open_ints Try.underlying22 Try.underlying5 (by kernel_rfl) hf with ⟨hcs, _⟩ | ⟨x, l, c, zs, hcs, _, hl, hm, hz, _, hcell, hwz⟩
    · simp [Value.cells] at hcs
      obtain ⟨rfl, rfl, rfl⟩ := hcs
      exact ⟨[], .inl ⟨rfl, rfl, rfl, rfl⟩⟩
    · simp [Value.cells] at hcs
      obtain ⟨rfl, rfl, rfl⟩ := hcs
      exact ⟨zs, .inr ⟨_, rfl, hl, hm, by simpa using hz, hcell, hwz⟩⟩
  clear hA0 hval0
  refine (walk a0 len0 cap0 z0 W w0).mono fun e W' ⟨he, bel⟩ => ?_
  subst he
  exact ⟨_, rfl, _, _, _, [], _, [], hW', trodAll_mk1 (shut_bool Try.underlying4 _), (trodAll_cons_mk (Below.trod laidOut (by kernel_rfl) (of_decide_eq_true (by kernel_rfl)) k0 bel lt0) trodAll_mk0), rfl, bel.frame _, fun h => by cases h⟩

theorem over : Rows.fnProbeCostRow.holds Try.pinned (OpenSpec.ofChange Rows.fnProbeCostSpec) :=
  OpenClaim.holds_of_wide 11 Try.f11 rfl rfl rfl rfl rfl rfl rfl ⟨rfl, rfl, rfl, rfl, rfl⟩ rfl rfl rfl rfl rfl (by kernel_rfl) Try.func11 (by kernel_rfl)
    (of_decide_eq_true (by kernel_rfl)) (by unfold Func.isWrapper; first | (rw [if_pos (by decide +kernel)]; kernel_rfl) | (rw [if_neg (by decide +kernel)]; exact ⟨rfl, rfl⟩))
    (fun os started H enc _ => lifted os started H enc)

/-- THE STATEMENT -/
theorem proved : Rows.FnProbeCostSaid :=
  over
#print axioms proved
end Go.Proofs.Ytmpoljhdcgdnnaa.fnProbeCost
