/-
  For all codes: of the book and the vector that the code draws: EncodeVector is what the reference says, and no vector of a code is nearer, and no earlier one as near. No condition.
-/
import Derived.Test.YtnfjbjlcglfabaaRows
import Derived.Test.YtnfjbjlcglfabaaDisTops
import Derived.Test.YtnfjbjlcglfabaaDrawBookTops
import Derived.Test.YtnfjbjlcglfabaaOneTops
import Derived.ProofKit
import Derived.OpenShut
import Derived.ShutString
import Derived.ChangeOld
namespace Go.Proofs.Ytnfjbjlcglfabaa.fnEncodeVector
open Go.ChangeShapes Go.WideShapes Go.ChangeAt Go.RowKit
set_option linter.unusedVariables false

set_option maxHeartbeats 1000000 in
theorem walk (a0 : Option Addr) (len0 cap0 : Nat) (z0 : List Int) (w : World) (w0 : IsRow .u8 w a0 len0 cap0 z0) :
    Calls Try.prog 12 #[.slice a0 len0 cap0] w fun e w' => e = .returned (.bool true) ∧ Below w.heap.size w w' := by
  by_cases hl : 1048576 < len0
  · clear w0
    go_enter Try.func12, Try.ntmps12
    go_wp2
    go_ret
    exact ⟨rfl, Below.refl _ _⟩
  · have H := Lib.hid (bytes_of_row w0 (by omega))
    clear w0
    go_enter Try.func12, Try.ntmps12
    go_wp2_with fail
    refine (DrawEncodeVector_any _ _ _ _ _ H.out).mono ?_
    rintro e w1 ⟨a1, b1, cap1, cap1', L, R, v, cv, m, rfl, ⟨hl, -, -⟩, ⟨hi, hcv⟩, hq, hb⟩
    have HB : Hid (Below w.heap.size w (w1.alloc (.cells #[.slice a1 L.length cap1, .slice b1 R.length cap1'] 25))) := Lib.hid (hb.alloc hb.size _)
    have hs : Sides (w1.alloc (.cells #[.slice a1 L.length cap1, .slice b1 R.length cap1'] 25)) w.heap.size w1.heap.size a1 b1 L R := hl.below ((Below.refl _ _).alloc (Nat.le_refl _) _)
    replace hi : Ints (w1.alloc (.cells #[.slice a1 L.length cap1, .slice b1 R.length cap1'] 25)) w.heap.size w1.heap.size v m := hi.below ((Below.refl _ _).alloc (Nat.le_refl _) _)
    have k0 := cell_new w1 #[.slice a1 L.length cap1, .slice b1 R.length cap1'] 25 0
    have k1 := cell_new w1 #[.slice a1 L.length cap1, .slice b1 R.length cap1'] 25 1
    have K0 := Lib.hid k0
    have K1 := Lib.hid k1
    have HCV := Lib.hid hcv
    clear hb hl k0 k1 hcv

    go_wp2_with fail
    refine (implEncodeVector _ _ _ _ _ _ _ _ _ _ _ L R m hs hi HCV.out).mono ?_
    rintro e w2 ⟨rfl, hmk⟩
    replace hs := hs.below hmk
    replace hi := hi.below hmk
    have k0 := cell_later hmk K0.out
    have k1 := cell_later hmk K1.out
    replace HB := Lib.hid (HB.out.trans (hmk.mono HB.out.size))
    clear hmk K0 K1
    go_wp2_with fail
    refine (specEncodeVector _ _ _ _ _ _ _ _ _ _ _ L R m hs hi HCV.out).mono ?_
    rintro e w3 ⟨rfl, hmk⟩
    replace hs := hs.below hmk
    replace hi := hi.below hmk
    replace k0 := cell_later hmk k0
    replace k1 := cell_later hmk k1
    replace HB := Lib.hid (HB.out.trans (hmk.mono HB.out.size))
    clear hmk
    by_cases hv : bookB L R = true ∧ vecB m 4 = true
    · have he := encV_yes hv.1 hv.2
      have hbd := (encI_bd hv.1 m).2.2
      have hm4 : m.length = 4 := by have := vecB_len hv.2; omega
      have V := Lib.hid hv
      have HM4 := Lib.hid hm4
      rw [he]
      clear he hv hm4
      have HBE := Lib.hid fun k (hk : k < 16) => enc_best V.out.1 V.out.2 hk
      have HD := Lib.hid fun k (hk : k < 16) => decL_vec V.out.1 hk
      obtain ⟨c, hc⟩ : ∃ c, encI L R m = c := ⟨_, rfl⟩
      have HC := Lib.hid hc
      rw [hc] at hbd HBE ⊢
      clear hc
      have HDC := Lib.hid (HD.out c hbd)
      have e4 := vecB_len HDC.out
      have E4 : Hid (∀ k, k < 16 → (decL L R k).length = 4) := Lib.hid fun k hk => by have := vecB_len (HD.out k hk); omega
      clear e4
      go_wp2_with fail
      refine (implDecodeVector_read _ _ _ _ _ _ _ L R c hs V.out.1 hbd).mono ?_
      rintro e w4 ⟨g4, gcap4, rfl, hg4, hgc4, hmk⟩
      replace hs := hs.below hmk
      replace hi := hi.below hmk
      replace k0 := cell_later hmk k0
      replace k1 := cell_later hmk k1
      replace HB := Lib.hid (HB.out.trans (hmk.mono HB.out.size))
      clear hmk
      clear hgc4
      go_wp2_with fail
      refine (implDistanceOf _ _ _ _ _ _ _ gcap4 cv (decL L R c) m 3 hg4 hi (by omega) HDC.out V.out.2).mono ?_
      rintro e w5 ⟨rfl, hdrw⟩
      replace hs := hs.drawn hdrw
      replace hi := hi.drawn hdrw
      replace k0 := hdrw.cell k0
      replace k1 := hdrw.cell k1
      replace HB := Lib.hid (HB.out.trans hdrw.below)
      have HS_w5 := Lib.hid (congrArg Array.size hdrw.heap)
      clear hdrw
      rw [E4.out c hbd]
      obtain ⟨dn, hdn⟩ : ∃ d, dst 3 (decL L R c) m 4 = d := ⟨_, rfl⟩
      rw [hdn] at HBE ⊢
      clear hdn hg4
      have K0 := Lib.hid k0
      have K1 := Lib.hid k1
      clear k0 k1
      go_wp2_with fail
      go_loopw [7, 8] (fun i d wr => ∃ k : Nat, k ≤ 16 ∧ i = .int .i64 (k : Int) ∧ Hid (Below w5.heap.size w5 wr)) (fun i _ _ => 16 - (intOf i).toNat)
      case atStart => exact ⟨0, Nat.zero_le _, rfl, Below.refl _ _⟩
      case round =>
        obtain ⟨k, hk, rfl, HW⟩ := hrel
        by_cases hlt : k < 16
        · have hs6 := hs.below HW.out
          have hi6 := hi.below HW.out
          have k0 := cell_later HW.out K0.out
          have k1 := cell_later HW.out K1.out
          have hbb := HBE.out k hlt
          go_wp2_with fail
          refine (implDecodeVector_read _ _ _ _ _ _ _ L R k hs6 V.out.1 hlt).mono ?_
          rintro e w6 ⟨g6, gcap6, rfl, hg6, hgc6, hmk⟩
          replace hi6 := hi6.below hmk
          replace HW := Lib.hid (HW.out.trans (hmk.mono HW.out.size))
          have VK := Lib.hid (HD.out k hlt)
          clear hmk hgc6 k0 k1 hs6
          go_wp2_with fail
          refine (implDistanceOf _ _ _ _ _ _ _ gcap6 cv (decL L R k) m 3 hg6 hi6 (by omega) VK.out V.out.2).mono ?_
          rintro e w7 ⟨rfl, hdrw⟩
          replace HW := Lib.hid (HW.out.trans hdrw.below)
          rw [E4.out k hlt]
          obtain ⟨d, hd⟩ : ∃ d, dst 3 (decL L R k) m 4 = d := ⟨_, rfl⟩
          rw [hd] at hbb ⊢
          clear hd hdrw hg6 hi6 VK
          obtain ⟨h1, h2⟩ := hbb
          by_cases hde : d = dn
          · have h3 := h2 hde
            subst hde
            clear h1 h2
            go_wp2_with fail
            go_roundw
            case rel => exact ⟨k + 1, by omega, by go_num, HW⟩
            case measure => simp [intOf]; omega
          · have h3 : (d == dn) = false := by simpa using hde
            clear h2 hde
            go_wp2_with fail
            go_roundw
            case rel => exact ⟨k + 1, by omega, by go_num, HW⟩
            case measure => simp [intOf]; omega
        · go_wp2_with fail
          go_ret
          have HBB := HB.out
          exact ⟨by simp; omega, HBB.trans (HW.out.mono HBB.size)⟩
    · have he : encV L R m = -1 := by
        cases h1 : bookB L R
        · exact encV_no1 h1
        · cases h2 : vecB m 4
          · exact encV_no2 h2
          · exact absurd ⟨h1, h2⟩ hv
      clear hv
      rw [he]
      go_wp2_with fail
      refine (specEncodeVector _ _ _ _ _ _ _ _ _ _ _ L R m hs hi HCV.out).mono ?_
      rintro e w4 ⟨rfl, hmk⟩
      replace hs := hs.below hmk
      replace HB := Lib.hid (HB.out.trans (hmk.mono HB.out.size))
      clear hmk
      rw [he]
      go_wp2_with fail
      go_ret
      exact ⟨rfl, HB.out⟩
theorem own : ownKnob Try.prog.godebug = none := by kernel_rfl
theorem laidOut : laidOutB Try.prog = true := by kernel_rfl

set_option maxRecDepth 100000 in
theorem lifted (os : Os) (started : os.Started) (H : Type) (enc : TypeId × Value → H) :
    ReturnsInHanded {} Try.checked os 12 .any (Rows.fnEncodeVectorSpec.pre6 enc Try.prog Try.f12 Rows.fnEncodeVectorRow.domain false) (Rows.fnEncodeVectorSpec.post enc Try.prog Try.f12 false true false false) := by
  refine returnsInHanded_of_change (C := Try.checked) own started (by kernel_rfl) Try.func12
    (ChangeSpec.witness6 (enc := enc) (C := Try.checked) false ⟨#[], #[.slice none 0 0], []⟩ 8 (by kernel_rfl) (by kernel_rfl) (by kernel_rfl) (by kernel_rfl)) ?_
  intro W base args ds gs before hval0 hW hcnd _
  have hval : ∀ (j : Nat) t v, Try.f12.params[j]? = some t → args[j]? = some v → Value.okWide Try.prog W .any base t v := hval0
  have hW' := hW
  obtain ⟨p, q, hA0, hV, rfl, hfz, hnd⟩ := hW
  have hA : DataW.TrodAll enc Try.prog W 0 (fun _ => true) true Try.f12.params.toList args.toList ds p := hA0
  rw [Try.params12] at hA hval
  obtain ⟨v0, vs0, d0, ds0, p0, q0, hargs, rfl, rfl, h0, r0⟩ := trodAll_cons hA
  obtain ⟨rfl, rfl, rfl⟩ := trodAll_nil r0
  obtain rfl : args = #[v0] := by cases args; simp_all
  obtain ⟨rfl, rfl⟩ := trodVars_none hV
  obtain ⟨a0, len0, cap0, rfl⟩ := okWide_slice Try.underlying22 (hval 0 22 v0 rfl rfl)
  have k0 := h0
  have lt0 : ∀ x ∈ p0, x.block < W.heap.size := by obtain ⟨m, hm⟩ := k0; exact DataW.trod_lt m _ _ _ hm
  obtain ⟨z0, w0⟩ : ∃ zs, IsRow .u8 W a0 len0 cap0 zs := by
    obtain ⟨fuel, hf⟩ := h0
    rcases open_ints Try.underlying22 Try.underlying5 (by kernel_rfl) hf with ⟨hcs, _⟩ | ⟨x, l, c, zs, hcs, _, hl, hm, hz, _, hcell, hwz⟩
    · simp [Value.cells] at hcs
      obtain ⟨rfl, rfl, rfl⟩ := hcs
      exact ⟨[], .inl ⟨rfl, rfl, rfl, rfl⟩⟩
    · simp [Value.cells] at hcs
      obtain ⟨rfl, rfl, rfl⟩ := hcs
      exact ⟨zs, .inr ⟨_, rfl, hl, hm, by simpa using hz, hcell, hwz⟩⟩
  clear hA0 hval0
  refine (walk a0 len0 cap0 z0 W w0).mono fun e W' ⟨he, bel⟩ => ?_
  subst he
  exact ⟨_, rfl, _, _, _, [], _, [], hW', trodAll_mk1 (shut_bool Try.underlying4 _), (trodAll_cons_mk (Below.trod laidOut (by kernel_rfl) (of_decide_eq_true (by kernel_rfl)) k0 bel lt0) trodAll_mk0), rfl, bel.frame _, fun h => by cases h⟩

theorem over : Rows.fnEncodeVectorRow.holds Try.pinned (OpenSpec.ofChange Rows.fnEncodeVectorSpec) :=
  OpenClaim.holds_of_wide 12 Try.f12 rfl rfl rfl rfl rfl rfl rfl ⟨rfl, rfl, rfl, rfl, rfl⟩ rfl rfl rfl rfl rfl (by kernel_rfl) Try.func12 (by kernel_rfl)
    (of_decide_eq_true (by kernel_rfl)) (by unfold Func.isWrapper; first | (rw [if_pos (by decide +kernel)]; kernel_rfl) | (rw [if_neg (by decide +kernel)]; exact ⟨rfl, rfl⟩))
    (fun os started H enc _ => lifted os started H enc)

/-- THE STATEMENT -/
theorem proved : Rows.FnEncodeVectorSaid :=
  over
#print axioms proved
end Go.Proofs.Ytnfjbjlcglfabaa.fnEncodeVector
