/-
  For all codes: of the centres and the vector that the code draws: CentreOf with the vector as one centre more is a centre that is equal to it. No condition.
-/
import Derived.Test.YtjonaolapbnepaaRows
import Derived.Test.YtjonaolapbnepaaVecTops
import Derived.Test.YtjonaolapbnepaaDrawTops
import Derived.Test.YtjonaolapbnepaaEqWalks
import Derived.Test.YtjonaolapbnepaaOwn
import Derived.ProofKit
import Derived.OpenShut
import Derived.ShutString
import Derived.ChangeOld
namespace Go.Proofs.Ytjonaolapbnepaa.fnCentreOfMore
open Go.ChangeShapes Go.WideShapes Go.ChangeAt Go.RowKit
set_option linter.unusedVariables false

set_option maxHeartbeats 1000000 in
theorem walk (a0 : Option Addr) (len0 cap0 : Nat) (z0 : List Int) (w : World) (w0 : IsRow .u8 w a0 len0 cap0 z0) :
    Calls Try.prog 13 #[.slice a0 len0 cap0] w fun e w' => e = .returned (.bool true) ∧ Below w.heap.size w w' := by
  by_cases hl : 1048576 < len0
  · clear w0
    go_enter Try.func13, Try.ntmps13
    go_wp2
    go_ret
    exact ⟨rfl, Below.refl _ _⟩
  · have H := Lib.hid (bytes_of_row w0 (by omega))
    clear w0
    go_enter Try.func13, Try.ntmps13
    go_wp2_with fail
    refine (DrawCentreOf_any _ _ _ _ _ H.out).mono ?_
    rintro e w1 ⟨a, b, cap, cap', ll, m, rfl, ⟨hl, hcap⟩, ⟨hi, hcap2⟩, hq, hb⟩
    have HB := Lib.hid hb
    have hc1 := hcap.1
    have hc2 := hcap.2
    have hc3 := hcap2.1
    have hc4 := hcap2.2
    have hq1 := hq.1
    clear hb hcap hcap2 hq
    go_wp2_with fail

    refine (implCentreOf _ _ _ _ _ _ _ _ _ _ _ hl hi).mono ?_
    rintro e w2 ⟨rfl, hdrw⟩
    replace hl := hl.drawn hdrw
    replace hi := hi.drawn hdrw
    replace HB := Lib.hid (HB.out.trans hdrw.below)
    have HS_w2 := Lib.hid (congrArg Array.size hdrw.heap)
    clear hdrw
    go_wp2_with fail
    refine (specCentreOf _ _ _ _ _ _ _ _ _ _ _ hl hi).mono ?_
    rintro e w3 ⟨rfl, hdrw⟩
    replace hl := hl.drawn hdrw
    replace hi := hi.drawn hdrw
    replace HB := Lib.hid (HB.out.trans hdrw.below)
    have HS_w3 := Lib.hid (congrArg Array.size hdrw.heap)
    clear hdrw
    by_cases hv : cenB ll 4 = true ∧ vecB m 4 = true
    · have he := centreV_yes hv.1 hv.2
      have hlen := cenB_len hv.1
      have hnr := near_lt m hlen.1
      rw [he]
      clear he
      have V := Lib.hid hv
      clear hv
      obtain ⟨nr, hnr'⟩ : ∃ nr, near ll m = nr := ⟨_, rfl⟩
      rw [hnr'] at hnr ⊢
      have HNR := Lib.hid hnr'
      clear hnr'
      by_cases h4 : ll.length = 4
      · have h4' : ((ll.length : Int) == 4) = true := by simp; omega
        have he := Lib.hid (centreV_yes V.out.1 V.out.2)
        clear h4
        go_wp2_with fail
        refine (specCentreOf _ _ _ _ _ _ _ _ _ _ _ hl hi).mono ?_
        rintro e w4 ⟨rfl, hdrw⟩
        replace hl := hl.drawn hdrw
        replace hi := hi.drawn hdrw
        replace HB := Lib.hid (HB.out.trans hdrw.below)
        have HS_w4 := Lib.hid (congrArg Array.size hdrw.heap)
        clear hdrw
        rw [he.out, HNR.out]
        go_wp2_with fail
        go_ret
        exact ⟨rfl, HB.out⟩
      · have h4' : ((ll.length : Int) == 4) = false := by simp; omega
        obtain ⟨p, off, vs, rfl, hvs, hcells⟩ := hl.values hlen.1
        have hs13 : w1.heap.size ≤ w3.heap.size := by have h1 := HS_w2.out; have h2 := HS_w3.out; omega
        have HE := Lib.hid (owns_empty w3 w3.heap.size 30 1 (Nat.le_refl _))
        have HV := Lib.hid hvs
        have HC := Lib.hid hcells
        have h3 : ll.length ≤ 3 := by have := hlen.2; omega
        clear hvs hcells h4
        go_wp2_with (first
          | (at_builtin; refine appendN rfl (.tmp 38) (.tmp 39) 22 rfl w3.heap.size 30 Try.underlying22 infoInts rfl (by omega) (by omega) _ 0 [] rfl HE.out ⟨p, off, none⟩ ll.length cap vs rfl (by rw [HV.out.1]; simp) (fun j u hj => cell_later ((Below.refl _ _).alloc (Nat.le_refl _) _) (HC.out j u hj)) HV.out.oneCells (by omega) (by simp) ?_; intro v4 w4 hown4 hg4; have HO4 := Lib.hid (show w4.ownsRow w3.heap.size 30 1 v4 ll.length vs by simpa using hown4); have HG4 := Lib.hid (grownBy_trans_alloc hg4); clear hown4 hg4)
          | (at_builtin; refine append1 rfl (.tmp 40) (.tmp 42) 22 rfl w3.heap.size 30 Try.underlying22 infoInts rfl (by omega) (by omega) v4 ll.length vs rfl HO4.out [.slice b m.length cap'] rfl rfl (by intro u hu; simp at hu; subst hu; rfl) (by omega) (by have := HG4.out.size; omega) ?_; intro v5 w5 hown5 hg5; have HO5 := Lib.hid hown5; have HG5 := Lib.hid hg5; clear hown5 hg5))
        have B4 : Below w3.heap.size w3 w4 := (Below.refl _ _).grown HG4.out (Nat.le_refl _) (owns_block HE.out)
        have B5 : Below w3.heap.size w4 w5 := (Below.refl _ _).grown HG5.out HG4.out.size (owns_block HO4.out)
        have B35 := B4.trans B5
        have hs5 := B35.size
        have R5 := ((HV.out.upd (Upd.of_below (lo := 0) (hi := 0) B35) (by omega)).wide (Nat.le_refl _) (show w1.heap.size ≤ w5.heap.size by omega)).snoc (cap := cap') ((hi.below B35).wide (Nat.le_refl _) (by omega))
        obtain ⟨a5, cap5, hv5, hl5⟩ := lists_of_vals (ll := ll ++ [m]) (by simpa using HO5.out) R5 (by simp; omega) (Nat.zero_le _) (Nat.le_refl _)
        have hm5 : cenB (ll ++ [m]) 4 = true := cenB_snoc V.out.1 V.out.2 (by omega)
        have hlen5 := cenB_len hm5
        have hcv := Lib.hid (centreV_yes hm5 V.out.2)
        have hgm := getD_last ll m []
        have hnl := near_lt m hlen5.1
        have VN := cenB_at hm5 hnl
        have hself := near_self (ll := ll ++ [m]) (k := ll.length) (by simp) hgm (by have h1 := vecB_len VN; have h2 := vecB_len V.out.2; omega)
        have hi5 := hi.below B35
        obtain ⟨p', off', an, cn, he', _, _, hcn, hxn⟩ := hl5.at_ hnl
        rw [hself.1] at hcn hxn
        obtain ⟨q, hq⟩ : ∃ q, near (ll ++ [m]) m = q := ⟨_, rfl⟩
        rw [hq] at hcn hnl hcv
        subst he'
        have HB5 : Hid (Below w.heap.size w w5) := Lib.hid (HB.out.trans (B35.mono (by have := HB.out.size; omega)))
        clear HB B4 B5 R5 hself hgm VN hm5 hq
        have HB := HB5
        have hnl' : ((q : Nat) : Int) < ll.length + 1 := by simp at hnl; omega
        rw [hv5]
        refine (implCentreOf _ _ _ _ _ _ _ _ _ _ _ hl5 hi5).mono ?_
        rintro e w6 ⟨rfl, hdrw⟩
        replace hi5 := hi5.drawn hdrw
        replace hxn := hxn.drawn hdrw
        replace hcn := hdrw.cell hcn
        replace HB := Lib.hid (HB.out.trans hdrw.below)
        have HS_w6 := Lib.hid (congrArg Array.size hdrw.heap)
        clear hdrw
        rw [hcv.out]
        clear hlen5
        go_wp2_with fail
        refine (equalInts_any _ _ _ _ _ _ _ _ _ _ _ hxn hi5).mono ?_
        rintro e w7 ⟨rfl, hdrw⟩
        replace HB := Lib.hid (HB.out.trans hdrw.below)
        have HS_w7 := Lib.hid (congrArg Array.size hdrw.heap)
        clear hdrw
        rw [eqL_self]
        go_wp2_with fail
        go_ret
        exact ⟨rfl, HB.out⟩

    · have he : centreV ll m = -1 := by
        cases h1 : cenB ll 4
        · exact centreV_no1 h1
        · cases h2 : vecB m 4
          · exact centreV_no2 h2
          · exact absurd ⟨h1, h2⟩ hv
      rw [he]
      go_wp2_with fail
      refine (specCentreOf _ _ _ _ _ _ _ _ _ _ _ hl hi).mono ?_
      rintro e w4 ⟨rfl, hdrw⟩
      replace hl := hl.drawn hdrw
      replace hi := hi.drawn hdrw
      replace HB := Lib.hid (HB.out.trans hdrw.below)
      have HS_w4 := Lib.hid (congrArg Array.size hdrw.heap)
      clear hdrw
      rw [he]
      go_wp2_with fail
      go_ret
      exact ⟨rfl, HB.out⟩
theorem own : ownKnob Try.prog.godebug = none := by kernel_rfl
theorem laidOut : laidOutB Try.prog = true := by kernel_rfl

set_option maxRecDepth 100000 in
theorem lifted (os : Os) (started : os.Started) (H : Type) (enc : TypeId × Value → H) :
    ReturnsInHanded {} Try.checked os 13 .any (Rows.fnCentreOfMoreSpec.pre6 enc Try.prog Try.f13 Rows.fnCentreOfMoreRow.domain false) (Rows.fnCentreOfMoreSpec.post enc Try.prog Try.f13 false true false false) := by
  refine returnsInHanded_of_change (C := Try.checked) own started (by kernel_rfl) Try.func13
    (ChangeSpec.witness6 (enc := enc) (C := Try.checked) false ⟨#[], #[.slice none 0 0], []⟩ 8 (by kernel_rfl) (by kernel_rfl) (by kernel_rfl) (by kernel_rfl)) ?_
  intro W base args ds gs before hval0 hW hcnd _
  have hval : ∀ (j : Nat) t v, Try.f13.params[j]? = some t → args[j]? = some v → Value.okWide Try.prog W .any base t v := hval0
  have hW' := hW
  obtain ⟨p, q, hA0, hV, rfl, hfz, hnd⟩ := hW
  have hA : DataW.TrodAll enc Try.prog W 0 (fun _ => true) true Try.f13.params.toList args.toList ds p := hA0
  rw [Try.params13] at hA hval
  obtain ⟨v0, vs0, d0, ds0, p0, q0, hargs, rfl, rfl, h0, r0⟩ := trodAll_cons hA
  obtain ⟨rfl, rfl, rfl⟩ := trodAll_nil r0
  obtain rfl : args = #[v0] := by cases args; simp_all
  obtain ⟨rfl, rfl⟩ := trodVars_none hV
  obtain ⟨a0, len0, cap0, rfl⟩ := okWide_slice Try.underlying27 (hval 0 27 v0 rfl rfl)
  have k0 := h0
  have lt0 : ∀ x ∈ p0, x.block < W.heap.size := by obtain ⟨m, hm⟩ := k0; exact DataW.trod_lt m _ _ _ hm
  obtain ⟨z0, w0⟩ : ∃ zs, IsRow .u8 W a0 len0 cap0 zs := by
    obtain ⟨fuel, hf⟩ := h0
    rcases open_ints Try.underlying27 Try.underlying5 (by kernel_rfl) hf with ⟨hcs, _⟩ | ⟨x, l, c, zs, hcs, _, hl, hm, hz, _, hcell, hwz⟩
    · simp [Value.cells] at hcs
      obtain ⟨rfl, rfl, rfl⟩ := hcs
      exact ⟨[], .inl ⟨rfl, rfl, rfl, rfl⟩⟩
    · simp [Value.cells] at hcs
      obtain ⟨rfl, rfl, rfl⟩ := hcs
      exact ⟨zs, .inr ⟨_, rfl, hl, hm, by simpa using hz, hcell, hwz⟩⟩
  clear hA0 hval0
  refine (walk a0 len0 cap0 z0 W w0).mono fun e W' ⟨he, bel⟩ => ?_
  subst he
  exact ⟨_, rfl, _, _, _, [], _, [], hW', trodAll_mk1 (shut_bool Try.underlying4 _), (trodAll_cons_mk (Below.trod laidOut (by kernel_rfl) (of_decide_eq_true (by kernel_rfl)) k0 bel lt0) trodAll_mk0), rfl, bel.frame _, fun h => by cases h⟩

theorem over : Rows.fnCentreOfMoreRow.holds Try.pinned (OpenSpec.ofChange Rows.fnCentreOfMoreSpec) :=
  OpenClaim.holds_of_wide 13 Try.f13 rfl rfl rfl rfl rfl rfl rfl ⟨rfl, rfl, rfl, rfl, rfl⟩ rfl rfl rfl rfl rfl (by kernel_rfl) Try.func13 (by kernel_rfl)
    (of_decide_eq_true (by kernel_rfl)) (by unfold Func.isWrapper; first | (rw [if_pos (by decide +kernel)]; kernel_rfl) | (rw [if_neg (by decide +kernel)]; exact ⟨rfl, rfl⟩))
    (fun os started H enc _ => lifted os started H enc)

/-- THE STATEMENT -/
theorem proved : Rows.FnCentreOfMoreSaid :=
  over
#print axioms proved
end Go.Proofs.Ytjonaolapbnepaa.fnCentreOfMore
