/-
  For all codes: of the book and the vector that the code draws: CodeDistances is what the reference says, and the distances of two codes with exchanged halves have the same sum. No condition.
-/
import Derived.Test.YtnfjbjlcglfabaaRows
import Derived.Test.YtnfjbjlcglfabaaDisTops
import Derived.Test.YtnfjbjlcglfabaaDrawBookTops
import Derived.Test.YtnfjbjlcglfabaaEqWalks
import Derived.ProofKit
import Derived.OpenShut
import Derived.ShutString
import Derived.ChangeOld
namespace Go.Proofs.Ytnfjbjlcglfabaa.fnCodeDistancesSum
open Go.ChangeShapes Go.WideShapes Go.ChangeAt Go.RowKit
set_option linter.unusedVariables false

set_option maxHeartbeats 1000000 in
theorem walk (a0 : Option Addr) (len0 cap0 : Nat) (z0 : List Int) (w : World) (w0 : IsRow .u8 w a0 len0 cap0 z0) :
    Calls Try.prog 10 #[.slice a0 len0 cap0] w fun e w' => e = .returned (.bool true) ∧ Below w.heap.size w w' := by
  by_cases hl : 1048576 < len0
  · clear w0
    go_enter Try.func10, Try.ntmps10
    go_wp2
    go_ret
    exact ⟨rfl, Below.refl _ _⟩
  · have H := Lib.hid (bytes_of_row w0 (by omega))
    clear w0
    go_enter Try.func10, Try.ntmps10
    go_wp2_with fail
    refine (DrawCodeDistances_any _ _ _ _ _ H.out).mono ?_
    rintro e w1 ⟨a1, b1, cap1, cap1', L, R, v, cv, m, rfl, ⟨hl, -, -⟩, ⟨hi, hcv⟩, hq, hb⟩
    have HB : Hid (Below w.heap.size w (w1.alloc (.cells #[.slice a1 L.length cap1, .slice b1 R.length cap1'] 25))) := Lib.hid (hb.alloc hb.size _)
    have hs : Sides (w1.alloc (.cells #[.slice a1 L.length cap1, .slice b1 R.length cap1'] 25)) w.heap.size w1.heap.size a1 b1 L R := hl.below ((Below.refl _ _).alloc (Nat.le_refl _) _)
    replace hi : Ints (w1.alloc (.cells #[.slice a1 L.length cap1, .slice b1 R.length cap1'] 25)) w.heap.size w1.heap.size v m := hi.below ((Below.refl _ _).alloc (Nat.le_refl _) _)
    have k0 := cell_new w1 #[.slice a1 L.length cap1, .slice b1 R.length cap1'] 25 0
    have k1 := cell_new w1 #[.slice a1 L.length cap1, .slice b1 R.length cap1'] 25 1
    have K0 := Lib.hid k0
    have K1 := Lib.hid k1
    have HCV := Lib.hid hcv
    clear hb hl k0 k1 hcv

    by_cases hv : bookB L R = true ∧ vecB m 4 = true
    · have hm4 : m.length = 4 := by have := vecB_len hv.2; omega
      have V := Lib.hid hv
      have HM4 := Lib.hid hm4
      clear hv hm4
      have HL := Lib.hid (disL_length L R m 16)
      have R1 := Lib.hid (implCodeDistances_read _ _ _ _ _ a1 b1 v cap1 cap1' cv L R m hs hi V.out.1 V.out.2)
      go_wp2_with fail
      refine R1.out.mono ?_
      rintro e w2 ⟨g, gcap, rfl, hg, hgc, hmk⟩
      have hgc1 := hgc.1
      have hgc2 := hgc.2
      rw [HL.out] at hgc1 ⊢
      replace hs := hs.below hmk
      replace hi := hi.below hmk
      have k0 := cell_later hmk K0.out
      have k1 := cell_later hmk K1.out
      replace HB := Lib.hid (HB.out.trans (hmk.mono HB.out.size))
      clear hmk hgc R1 K0 K1
      go_wp2_with fail
      refine (specCodeDistances_read _ _ _ _ _ _ _ _ _ _ _ L R m hs hi V.out.1 V.out.2).mono ?_
      rintro e w3 ⟨g3, gcap3, rfl, hg3, hgc3, hmk⟩
      replace hs := hs.below hmk
      replace hi := hi.below hmk
      replace hg := hg.below hmk
      replace k0 := cell_later hmk k0
      replace k1 := cell_later hmk k1
      replace HB := Lib.hid (HB.out.trans (hmk.mono HB.out.size))
      clear hmk
      clear hgc3
      have D1 := Lib.hid (equalInts_any w3 _ _ _ _ _ _ gcap gcap3 _ _ hg hg3)
      rw [eqL_self, HL.out] at D1
      rw [HL.out]
      clear hg3
      go_wp2_with fail
      refine (D1.out).mono ?_
      rintro e w4 ⟨rfl, hdrw⟩
      replace hs := hs.drawn hdrw
      replace hi := hi.drawn hdrw
      replace hg := hg.drawn hdrw
      replace k0 := hdrw.cell k0
      replace k1 := hdrw.cell k1
      replace HB := Lib.hid (HB.out.trans hdrw.below)
      have HS_w4 := Lib.hid (congrArg Array.size hdrw.heap)
      clear hdrw
      clear D1
      go_wp2_with fail
      have HS := Lib.hid fun k (hk : k < 16) => dis_sum V.out.1 V.out.2 hk
      have HCL : Hid (∀ (w' : World) (k : Nat), Drawn w4 w' → k < 16 → w'.cell? ⟨g, k, none⟩ = some (.int .i64 (dst 3 (decL L R k) m 4))) := Lib.hid fun w' k dr hk => by
        obtain ⟨b', off', ha, _, _, hcell, _⟩ := hg.at_ (k := k) (by rw [HL.out]; exact hk)
        simp only [Option.some.injEq, Addr.mk.injEq] at ha
        obtain ⟨rfl, rfl, _⟩ := ha
        rw [Nat.zero_add, disL_get hk] at hcell
        exact dr.cell hcell
      clear hg hs hi k0 k1
      go_loopw [6, 7] (fun x y wr => ∃ k : Nat, k ≤ 4 ∧ x = .int .i64 (k : Int) ∧ Hid (Drawn w4 wr)) (fun x _ _ => 4 - (intOf x).toNat)
      case atStart => exact ⟨0, Nat.zero_le _, rfl, Drawn.refl _⟩
      case round =>
        obtain ⟨k, hk, rfl, HW⟩ := hrel
        by_cases hlt : k < 4
        · obtain ⟨wo, hwo⟩ : ∃ wo : World, wo = wr := ⟨_, rfl⟩
          subst hwo
          go_wp2_with fail
          go_loopw [7] (fun y wr => ∃ j : Nat, j ≤ 4 ∧ y = .int .i64 (j : Int) ∧ Hid (Drawn w4 wr)) (fun y _ => 4 - (intOf y).toNat)
          case atStart => exact ⟨0, Nat.zero_le _, rfl, HW⟩
          case round =>
            obtain ⟨j, hj, rfl, HW⟩ := hrel
            by_cases hlj : j < 4
            · have c1 := HCL.out wr (k * 4 + j) HW.out (by omega)
              have c2 := HCL.out wr 0 HW.out (by omega)
              have c3 := HCL.out wr (k * 4) HW.out (by omega)
              have c4 := HCL.out wr j HW.out (by omega)
              have s1 := HS.out (k * 4 + j) (by omega)
              have s2 := HS.out 0 (by omega)
              have s3 := HS.out (k * 4) (by omega)
              have s4 := HS.out j (by omega)
              rw [show (k * 4 + j) / 4 = k by omega, show (k * 4 + j) % 4 = j by omega] at s1
              rw [show 0 / 4 = 0 by omega, show 0 % 4 = 0 by omega] at s2
              rw [show k * 4 / 4 = k by omega, show k * 4 % 4 = 0 by omega] at s3
              rw [show j / 4 = 0 by omega, show j % 4 = j by omega] at s4
              obtain ⟨x1, e1⟩ : ∃ d, dst 3 (decL L R (k * 4 + j)) m 4 = d := ⟨_, rfl⟩
              obtain ⟨x2, e2⟩ : ∃ d, dst 3 (decL L R 0) m 4 = d := ⟨_, rfl⟩
              obtain ⟨x3, e3⟩ : ∃ d, dst 3 (decL L R (k * 4)) m 4 = d := ⟨_, rfl⟩
              obtain ⟨x4, e4⟩ : ∃ d, dst 3 (decL L R j) m 4 = d := ⟨_, rfl⟩
              rw [e1] at c1 s1
              rw [e2] at c2 s2
              rw [e3] at c3 s3
              rw [e4] at c4 s4
              have t1 : 0 ≤ x1 ∧ x1 ≤ 160000 := by omega
              have t2 : 0 ≤ x2 ∧ x2 ≤ 160000 := by omega
              have t3 : 0 ≤ x3 ∧ x3 ≤ 160000 := by omega
              have t4 : 0 ≤ x4 ∧ x4 ≤ 160000 := by omega
              have te : (x1 + x2 != x3 + x4) = false := by simp; omega
              clear e1 e2 e3 e4 s1 s2 s3 s4
              have i1 : IntKind.i64.wrap ((k : Int) * 4) = (k : Int) * 4 := wrap_in (by omega)
              have i2 : IntKind.i64.wrap ((k : Int) * 4 + (j : Int)) = (k : Int) * 4 + (j : Int) := wrap_in (by omega)
              have i3 : ((k : Int) * 4).toNat = k * 4 := by omega
              have i4 : ((k : Int) * 4 + (j : Int)).toNat = k * 4 + j := by omega
              have i5 : IntKind.i64.wrap (x1 + x2) = x1 + x2 := wrap_in (by omega)
              have i6 : IntKind.i64.wrap (x3 + x4) = x3 + x4 := wrap_in (by omega)
              go_wp2_with fail
              go_quiet (fail)
              clear i1 i2 i3 i4 i5 i6 c1 c2 c3 c4
              go_wp2_with fail
              go_roundw
              case rel => exact ⟨j + 1, by omega, by go_num, HW.out.more _⟩
              case measure => simp [intOf]; omega
            · go_wp2_with fail
              go_roundw
              case rel => exact ⟨k + 1, by omega, by go_num, HW.out⟩
              case measure => simp [intOf]; omega
        · go_wp2_with fail
          go_ret
          exact ⟨rfl, HB.out.trans HW.out.below⟩
    · have HN := Lib.hid hv
      clear hv
      go_wp2_with fail
      refine (implCodeDistances_no _ _ _ _ _ _ _ _ _ _ _ _ _ _ hs hi HN.out).mono ?_
      rintro e w2 ⟨rfl, hmk⟩
      replace hs := hs.below hmk
      replace hi := hi.below hmk
      have k0 := cell_later hmk K0.out
      have k1 := cell_later hmk K1.out
      replace HB := Lib.hid (HB.out.trans (hmk.mono HB.out.size))
      clear hmk
      go_wp2_with fail
      refine (specCodeDistances_no _ _ _ _ _ _ _ _ _ _ _ _ _ _ hs hi HN.out).mono ?_
      rintro e w3 ⟨rfl, hmk⟩
      replace hs := hs.below hmk
      replace hi := hi.below hmk
      replace k0 := cell_later hmk k0
      replace k1 := cell_later hmk k1
      replace HB := Lib.hid (HB.out.trans (hmk.mono HB.out.size))
      clear hmk
      go_wp2_with fail
      refine (equalInts_any w3 0 0 0 0 none none 0 0 [] [] (Ints.nil _ _ _ _) (Ints.nil _ _ _ _)).mono ?_
      rintro e w4 ⟨rfl, hdrw⟩
      replace hs := hs.drawn hdrw
      replace hi := hi.drawn hdrw
      replace k0 := hdrw.cell k0
      replace k1 := hdrw.cell k1
      replace HB := Lib.hid (HB.out.trans hdrw.below)
      have HS_w4 := Lib.hid (congrArg Array.size hdrw.heap)
      clear hdrw
      rw [eqL_self]
      go_wp2_with fail
      refine (specCodeDistances_no _ _ _ _ _ _ _ _ _ _ _ _ _ _ hs hi HN.out).mono ?_
      rintro e w5 ⟨rfl, hmk⟩
      replace hs := hs.below hmk
      replace HB := Lib.hid (HB.out.trans (hmk.mono HB.out.size))
      clear hmk
      go_wp2_with fail
      refine (equalInts_any w5 0 0 0 0 none none 0 0 [] [] (Ints.nil _ _ _ _) (Ints.nil _ _ _ _)).mono ?_
      rintro e w6 ⟨rfl, hdrw⟩
      replace HB := Lib.hid (HB.out.trans hdrw.below)
      have HS_w6 := Lib.hid (congrArg Array.size hdrw.heap)
      clear hdrw
      rw [eqL_self]
      go_wp2_with fail
      go_ret
      exact ⟨rfl, HB.out⟩
theorem own : ownKnob Try.prog.godebug = none := by kernel_rfl
theorem laidOut : laidOutB Try.prog = true := by kernel_rfl

set_option maxRecDepth 100000 in
theorem lifted (os : Os) (started : os.Started) (H : Type) (enc : TypeId × Value → H) :
    ReturnsInHanded {} Try.checked os 10 .any (Rows.fnCodeDistancesSumSpec.pre6 enc Try.prog Try.f10 Rows.fnCodeDistancesSumRow.domain false) (Rows.fnCodeDistancesSumSpec.post enc Try.prog Try.f10 false true false false) := by
  refine returnsInHanded_of_change (C := Try.checked) own started (by kernel_rfl) Try.func10
    (ChangeSpec.witness6 (enc := enc) (C := Try.checked) false ⟨#[], #[.slice none 0 0], []⟩ 8 (by kernel_rfl) (by kernel_rfl) (by kernel_rfl) (by kernel_rfl)) ?_
  intro W base args ds gs before hval0 hW hcnd _
  have hval : ∀ (j : Nat) t v, Try.f10.params[j]? = some t → args[j]? = some v → Value.okWide Try.prog W .any base t v := hval0
  have hW' := hW
  obtain ⟨p, q, hA0, hV, rfl, hfz, hnd⟩ := hW
  have hA : DataW.TrodAll enc Try.prog W 0 (fun _ => true) true Try.f10.params.toList args.toList ds p := hA0
  rw [Try.params10] at hA hval
  obtain ⟨v0, vs0, d0, ds0, p0, q0, hargs, rfl, rfl, h0, r0⟩ := trodAll_cons hA
  obtain ⟨rfl, rfl, rfl⟩ := trodAll_nil r0
  obtain rfl : args = #[v0] := by cases args; simp_all
  obtain ⟨rfl, rfl⟩ := trodVars_none hV
  obtain ⟨a0, len0, cap0, rfl⟩ := okWide_slice Try.underlying22 (hval 0 22 v0 rfl rfl)
  have k0 := h0
  have lt0 : ∀ x ∈ p0, x.block < W.heap.size := by obtain ⟨m, hm⟩ := k0; exact DataW.trod_lt m _ _ _ hm
  obtain ⟨z0, w0⟩ : ∃ zs, IsRow .u8 W a0 len0 cap0 zs := by
    obtain ⟨fuel, hf⟩ := h0
    rcases open_ints Try.underlying22 Try.underlying5 (by kernel_rfl) hf with ⟨hcs, _⟩ | ⟨x, l, c, zs, hcs, _, hl, hm, hz, _, hcell, hwz⟩
    · simp [Value.cells] at hcs
      obtain ⟨rfl, rfl, rfl⟩ := hcs
      exact ⟨[], .inl ⟨rfl, rfl, rfl, rfl⟩⟩
    · simp [Value.cells] at hcs
      obtain ⟨rfl, rfl, rfl⟩ := hcs
      exact ⟨zs, .inr ⟨_, rfl, hl, hm, by simpa using hz, hcell, hwz⟩⟩
  clear hA0 hval0
  refine (walk a0 len0 cap0 z0 W w0).mono fun e W' ⟨he, bel⟩ => ?_
  subst he
  exact ⟨_, rfl, _, _, _, [], _, [], hW', trodAll_mk1 (shut_bool Try.underlying4 _), (trodAll_cons_mk (Below.trod laidOut (by kernel_rfl) (of_decide_eq_true (by kernel_rfl)) k0 bel lt0) trodAll_mk0), rfl, bel.frame _, fun h => by cases h⟩

theorem over : Rows.fnCodeDistancesSumRow.holds Try.pinned (OpenSpec.ofChange Rows.fnCodeDistancesSumSpec) :=
  OpenClaim.holds_of_wide 10 Try.f10 rfl rfl rfl rfl rfl rfl rfl ⟨rfl, rfl, rfl, rfl, rfl⟩ rfl rfl rfl rfl rfl (by kernel_rfl) Try.func10 (by kernel_rfl)
    (of_decide_eq_true (by kernel_rfl)) (by unfold Func.isWrapper; first | (rw [if_pos (by decide +kernel)]; kernel_rfl) | (rw [if_neg (by decide +kernel)]; exact ⟨rfl, rfl⟩))
    (fun os started H enc _ => lifted os started H enc)

/-- THE STATEMENT -/
theorem proved : Rows.FnCodeDistancesSumSaid :=
  over
#print axioms proved
end Go.Proofs.Ytnfjbjlcglfabaa.fnCodeDistancesSum
