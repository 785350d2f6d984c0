/-
  For all codes: of the book and the code that the code draws: DecodeVector of EncodeVector of DecodeVector of the code is DecodeVector of the code. No condition.
-/
import Derived.Test.YtnfjbjlcglfabaaRows
import Derived.Test.YtnfjbjlcglfabaaDisTops
import Derived.Test.YtnfjbjlcglfabaaDrawBookTops
import Derived.Test.YtnfjbjlcglfabaaEqWalks
import Derived.ProofKit
import Derived.OpenShut
import Derived.ShutString
import Derived.ChangeOld
namespace Go.Proofs.Ytnfjbjlcglfabaa.fnEncodeVectorOwn
open Go.ChangeShapes Go.WideShapes Go.ChangeAt Go.RowKit
set_option linter.unusedVariables false

set_option maxHeartbeats 1000000 in
theorem walk (a0 : Option Addr) (len0 cap0 : Nat) (z0 : List Int) (w : World) (w0 : IsRow .u8 w a0 len0 cap0 z0) :
    Calls Try.prog 8 #[.slice a0 len0 cap0] w fun e w' => e = .returned (.bool true) ∧ Below w.heap.size w w' := by
  by_cases hl : 1048576 < len0
  · clear w0
    go_enter Try.func8, Try.ntmps8
    go_wp2
    go_ret
    exact ⟨rfl, Below.refl _ _⟩
  · have H := Lib.hid (bytes_of_row w0 (by omega))
    clear w0
    go_enter Try.func8, Try.ntmps8
    go_wp2_with fail
    refine (DrawDecodeVector_any _ _ _ _ _ H.out).mono ?_
    rintro e w1 ⟨a1, b1, cap1, cap1', L, R, c, rfl, ⟨hl, -, -⟩, hcc, hb⟩
    have HB : Hid (Below w.heap.size w (w1.alloc (.cells #[.slice a1 L.length cap1, .slice b1 R.length cap1'] 25))) := Lib.hid (hb.alloc hb.size _)
    have hs : Sides (w1.alloc (.cells #[.slice a1 L.length cap1, .slice b1 R.length cap1'] 25)) 0 w1.heap.size a1 b1 L R := hl.below ((Below.refl _ _).alloc (Nat.le_refl _) _)
    have k0 := cell_new w1 #[.slice a1 L.length cap1, .slice b1 R.length cap1'] 25 0
    have k1 := cell_new w1 #[.slice a1 L.length cap1, .slice b1 R.length cap1'] 25 1
    have K0 := Lib.hid k0
    have K1 := Lib.hid k1
    clear hb hl k0 k1
    by_cases hv : bookB L R = true ∧ 0 ≤ c ∧ c < 16
    · obtain ⟨hv, c0, c16⟩ := hv
      have hN : ∃ n : Nat, c = (n : Int) ∧ n < 16 := ⟨c.toNat, by omega, by omega⟩
      obtain ⟨n, rfl, hn⟩ := hN
      have HV := Lib.hid hv
      have e4 := vecB_len (decL_vec hv hn)
      have E4 : Hid ((decL L R n).length = 4) := Lib.hid (by omega)
      clear c0 c16 hcc hv e4
      have R1 := Lib.hid (implDecodeVector_read (w1.alloc (.cells #[.slice a1 L.length cap1, .slice b1 R.length cap1'] 25)) _ _ a1 b1 cap1 cap1' L R n hs HV.out hn)
      go_wp2_with fail
      refine R1.out.mono ?_
      rintro e w2 ⟨g, gcap, rfl, hg, hgc, hmk⟩
      have hgc1 := hgc.1
      have hgc2 := hgc.2
      rw [E4.out] at hgc1 ⊢
      replace hs := hs.below hmk
      have k0 := cell_later hmk K0.out
      have k1 := cell_later hmk K1.out
      have K0 := Lib.hid k0
      have K1 := Lib.hid k1
      replace HB := Lib.hid (HB.out.trans (hmk.mono HB.out.size))
      clear hmk hgc R1
      go_wp2_with fail
      refine (specDecodeVector_read _ _ _ _ _ _ _ L R n hs HV.out hn).mono ?_
      rintro e w3 ⟨g3, gcap3, rfl, hg3, hgc3, hmk⟩
      replace hs := hs.below hmk
      replace hg := hg.below hmk
      replace k0 := cell_later hmk k0
      replace k1 := cell_later hmk k1
      replace HB := Lib.hid (HB.out.trans (hmk.mono HB.out.size))
      clear hmk
      clear hgc3
      have D1 := Lib.hid (equalInts_any w3 _ _ _ _ _ _ gcap gcap3 _ _ hg hg3)
      rw [eqL_self, E4.out] at D1
      rw [E4.out]
      clear hg3
      go_wp2_with fail
      refine (D1.out).mono ?_
      rintro e w4 ⟨rfl, hdrw⟩
      replace hs := hs.drawn hdrw
      replace hg := hg.drawn hdrw
      replace k0 := hdrw.cell k0
      replace k1 := hdrw.cell k1
      replace HB := Lib.hid (HB.out.trans hdrw.below)
      have HS_w4 := Lib.hid (congrArg Array.size hdrw.heap)
      clear hdrw
      clear D1
      go_wp2_with fail
      have DV := Lib.hid (decL_vec HV.out hn)
      have HO := Lib.hid (enc_own HV.out hn)
      have HE := Lib.hid (encV_yes HV.out DV.out)
      have hk16 := (encI_bd HV.out (decL L R n)).2.2
      have C1 := Lib.hid (implEncodeVector w4 _ _ _ _ _ _ _ cap1 cap1' gcap L R (decL L R n) hs hg (by rw [E4.out]; exact ⟨hgc1, hgc2⟩))
      rw [HE.out, E4.out] at C1
      obtain ⟨k, ek⟩ : ∃ k, encI L R (decL L R n) = k := ⟨_, rfl⟩
      rw [ek] at C1 HO hk16
      clear ek HE
      go_wp2_with fail
      refine (C1.out).mono ?_
      rintro e w5 ⟨rfl, hmk⟩
      replace hs := hs.below hmk
      replace hg := hg.below hmk
      replace k0 := cell_later hmk k0
      replace k1 := cell_later hmk k1
      replace HB := Lib.hid (HB.out.trans (hmk.mono HB.out.size))
      clear hmk
      have hkn : (k : Int) ≤ n := by have := HO.out.1; omega
      go_wp2_with fail
      refine (implDecodeVector_read _ _ _ _ _ _ _ L R k hs HV.out hk16).mono ?_
      rintro e w6 ⟨g6, gcap6, rfl, hg6, hgc6, hmk⟩
      replace hs := hs.below hmk
      replace hg := hg.below hmk
      replace k0 := cell_later hmk k0
      replace k1 := cell_later hmk k1
      replace HB := Lib.hid (HB.out.trans (hmk.mono HB.out.size))
      clear hmk
      have D3 := Lib.hid (equalInts_any w6 _ _ _ _ _ _ gcap6 gcap _ _ hg6 hg)
      rw [HO.out.2, eqL_self, E4.out] at D3
      rw [HO.out.2, E4.out]
      clear hg6 hgc6
      go_wp2_with fail
      refine (D3.out).mono ?_
      rintro e w7 ⟨rfl, hdrw⟩
      replace HB := Lib.hid (HB.out.trans hdrw.below)
      have HS_w7 := Lib.hid (congrArg Array.size hdrw.heap)
      clear hdrw
      go_wp2_with fail
      go_ret
      exact ⟨rfl, HB.out⟩
    · have HN := Lib.hid hv
      clear hv hcc
      go_wp2_with fail
      refine (implDecodeVector_no _ _ _ _ _ _ _ _ _ _ hs HN.out).mono ?_
      rintro e w2 ⟨rfl, hmk⟩
      replace hs := hs.below hmk
      have k0 := cell_later hmk K0.out
      have k1 := cell_later hmk K1.out
      replace HB := Lib.hid (HB.out.trans (hmk.mono HB.out.size))
      clear hmk
      go_wp2_with fail
      refine (specDecodeVector_no _ _ _ _ _ _ _ _ _ _ hs HN.out).mono ?_
      rintro e w3 ⟨rfl, hmk⟩
      replace hs := hs.below hmk
      replace k0 := cell_later hmk k0
      replace k1 := cell_later hmk k1
      replace HB := Lib.hid (HB.out.trans (hmk.mono HB.out.size))
      clear hmk
      go_wp2_with fail
      refine (equalInts_any w3 0 0 0 0 none none 0 0 [] [] (Ints.nil _ _ _ _) (Ints.nil _ _ _ _)).mono ?_
      rintro e w4 ⟨rfl, hdrw⟩
      replace hs := hs.drawn hdrw
      replace k0 := hdrw.cell k0
      replace k1 := hdrw.cell k1
      replace HB := Lib.hid (HB.out.trans hdrw.below)
      have HS_w4 := Lib.hid (congrArg Array.size hdrw.heap)
      clear hdrw
      rw [eqL_self]
      go_wp2_with fail
      refine (specDecodeVector_no _ _ _ _ _ _ _ _ _ _ hs HN.out).mono ?_
      rintro e w5 ⟨rfl, hmk⟩
      replace hs := hs.below hmk
      replace HB := Lib.hid (HB.out.trans (hmk.mono HB.out.size))
      clear hmk
      go_wp2_with fail
      refine (equalInts_any w5 0 0 0 0 none none 0 0 [] [] (Ints.nil _ _ _ _) (Ints.nil _ _ _ _)).mono ?_
      rintro e w6 ⟨rfl, hdrw⟩
      replace HB := Lib.hid (HB.out.trans hdrw.below)
      have HS_w6 := Lib.hid (congrArg Array.size hdrw.heap)
      clear hdrw
      rw [eqL_self]
      go_wp2_with fail
      go_ret
      exact ⟨rfl, HB.out⟩
theorem own : ownKnob Try.prog.godebug = none := by kernel_rfl
theorem laidOut : laidOutB Try.prog = true := by kernel_rfl

set_option maxRecDepth 100000 in
theorem lifted (os : Os) (started : os.Started) (H : Type) (enc : TypeId × Value → H) :
    ReturnsInHanded {} Try.checked os 8 .any (Rows.fnEncodeVectorOwnSpec.pre6 enc Try.prog Try.f8 Rows.fnEncodeVectorOwnRow.domain false) (Rows.fnEncodeVectorOwnSpec.post enc Try.prog Try.f8 false true false false) := by
  refine returnsInHanded_of_change (C := Try.checked) own started (by kernel_rfl) Try.func8
    (ChangeSpec.witness6 (enc := enc) (C := Try.checked) false ⟨#[], #[.slice none 0 0], []⟩ 8 (by kernel_rfl) (by kernel_rfl) (by kernel_rfl) (by kernel_rfl)) ?_
  intro W base args ds gs before hval0 hW hcnd _
  have hval : ∀ (j : Nat) t v, Try.f8.params[j]? = some t → args[j]? = some v → Value.okWide Try.prog W .any base t v := hval0
  have hW' := hW
  obtain ⟨p, q, hA0, hV, rfl, hfz, hnd⟩ := hW
  have hA : DataW.TrodAll enc Try.prog W 0 (fun _ => true) true Try.f8.params.toList args.toList ds p := hA0
  rw [Try.params8] at hA hval
  obtain ⟨v0, vs0, d0, ds0, p0, q0, hargs, rfl, rfl, h0, r0⟩ := trodAll_cons hA
  obtain ⟨rfl, rfl, rfl⟩ := trodAll_nil r0
  obtain rfl : args = #[v0] := by cases args; simp_all
  obtain ⟨rfl, rfl⟩ := trodVars_none hV
  obtain ⟨a0, len0, cap0, rfl⟩ := okWide_slice Try.underlying22 (hval 0 22 v0 rfl rfl)
  have k0 := h0
  have lt0 : ∀ x ∈ p0, x.block < W.heap.size := by obtain ⟨m, hm⟩ := k0; exact DataW.trod_lt m _ _ _ hm
  obtain ⟨z0, w0⟩ : ∃ zs, IsRow .u8 W a0 len0 cap0 zs := by
    obtain ⟨fuel, hf⟩ := h0
    rcases open_ints Try.underlying22 Try.underlying5 (by kernel_rfl) hf with ⟨hcs, _⟩ | ⟨x, l, c, zs, hcs, _, hl, hm, hz, _, hcell, hwz⟩
    · simp [Value.cells] at hcs
      obtain ⟨rfl, rfl, rfl⟩ := hcs
      exact ⟨[], .inl ⟨rfl, rfl, rfl, rfl⟩⟩
    · simp [Value.cells] at hcs
      obtain ⟨rfl, rfl, rfl⟩ := hcs
      exact ⟨zs, .inr ⟨_, rfl, hl, hm, by simpa using hz, hcell, hwz⟩⟩
  clear hA0 hval0
  refine (walk a0 len0 cap0 z0 W w0).mono fun e W' ⟨he, bel⟩ => ?_
  subst he
  exact ⟨_, rfl, _, _, _, [], _, [], hW', trodAll_mk1 (shut_bool Try.underlying4 _), (trodAll_cons_mk (Below.trod laidOut (by kernel_rfl) (of_decide_eq_true (by kernel_rfl)) k0 bel lt0) trodAll_mk0), rfl, bel.frame _, fun h => by cases h⟩

theorem over : Rows.fnEncodeVectorOwnRow.holds Try.pinned (OpenSpec.ofChange Rows.fnEncodeVectorOwnSpec) :=
  OpenClaim.holds_of_wide 8 Try.f8 rfl rfl rfl rfl rfl rfl rfl ⟨rfl, rfl, rfl, rfl, rfl⟩ rfl rfl rfl rfl rfl (by kernel_rfl) Try.func8 (by kernel_rfl)
    (of_decide_eq_true (by kernel_rfl)) (by unfold Func.isWrapper; first | (rw [if_pos (by decide +kernel)]; kernel_rfl) | (rw [if_neg (by decide +kernel)]; exact ⟨rfl, rfl⟩))
    (fun os started H enc _ => lifted os started H enc)

/-- THE STATEMENT -/
theorem proved : Rows.FnEncodeVectorOwnSaid :=
  over
#print axioms proved
end Go.Proofs.Ytnfjbjlcglfabaa.fnEncodeVectorOwn
