/-
  For all codes: of the book and the vector that the code draws: CodeDistances is what the reference says, has the distance of each code, and the least one is that of EncodeVector. No condition.
-/
import Derived.Test.YtnfjbjlcglfabaaRows
import Derived.Test.YtnfjbjlcglfabaaDisTops
import Derived.Test.YtnfjbjlcglfabaaDrawBookTops
import Derived.Test.YtnfjbjlcglfabaaOneTops
import Derived.Test.YtnfjbjlcglfabaaEqWalks
import Derived.Deep.RegionHeld3
import Derived.ProofKit
import Derived.OpenShut
import Derived.ShutString
import Derived.ChangeOld
namespace Go.Proofs.Ytnfjbjlcglfabaa.fnCodeDistances
open Go.ChangeShapes Go.WideShapes Go.ChangeAt Go.RowKit
set_option linter.unusedVariables false

set_option maxHeartbeats 1000000 in
theorem walk (a0 : Option Addr) (len0 cap0 : Nat) (z0 : List Int) (w : World) (w0 : IsRow .u8 w a0 len0 cap0 z0) :
    Calls Try.prog 14 #[.slice a0 len0 cap0] w fun e w' => e = .returned (.bool true) ∧ Below w.heap.size w w' := by
  by_cases hl : 1048576 < len0
  · clear w0
    go_enter Try.func14, Try.ntmps14
    go_wp2
    go_ret
    exact ⟨rfl, Below.refl _ _⟩
  · have H := Lib.hid (bytes_of_row w0 (by omega))
    clear w0
    go_enter Try.func14, Try.ntmps14
    go_wp2_with fail
    refine (DrawCodeDistances_any _ _ _ _ _ H.out).mono ?_
    rintro e w1 ⟨a1, b1, cap1, cap1', L, R, v, cv, m, rfl, ⟨hl, -, -⟩, ⟨hi, hcv⟩, hq, hb⟩
    have HB : Hid (Below w.heap.size w (w1.alloc (.cells #[.slice a1 L.length cap1, .slice b1 R.length cap1'] 25))) := Lib.hid (hb.alloc hb.size _)
    have hs : Sides (w1.alloc (.cells #[.slice a1 L.length cap1, .slice b1 R.length cap1'] 25)) w.heap.size w1.heap.size a1 b1 L R := hl.below ((Below.refl _ _).alloc (Nat.le_refl _) _)
    replace hi : Ints (w1.alloc (.cells #[.slice a1 L.length cap1, .slice b1 R.length cap1'] 25)) w.heap.size w1.heap.size v m := hi.below ((Below.refl _ _).alloc (Nat.le_refl _) _)
    have k0 := cell_new w1 #[.slice a1 L.length cap1, .slice b1 R.length cap1'] 25 0
    have k1 := cell_new w1 #[.slice a1 L.length cap1, .slice b1 R.length cap1'] 25 1
    have K0 := Lib.hid k0
    have K1 := Lib.hid k1
    have HCV := Lib.hid hcv
    clear hb hl k0 k1 hcv

    by_cases hv : bookB L R = true ∧ vecB m 4 = true
    · have hm4 : m.length = 4 := by have := vecB_len hv.2; omega
      have V := Lib.hid hv
      have HM4 := Lib.hid hm4
      clear hv hm4
      have HL := Lib.hid (disL_length L R m 16)
      have R1 := Lib.hid (implCodeDistances_read _ _ _ _ _ a1 b1 v cap1 cap1' cv L R m hs hi V.out.1 V.out.2)
      go_wp2_with fail
      refine R1.out.mono ?_
      rintro e w2 ⟨g, gcap, rfl, hg, hgc, hmk⟩
      have hgc1 := hgc.1
      have hgc2 := hgc.2
      rw [HL.out] at hgc1 ⊢
      replace hs := hs.below hmk
      replace hi := hi.below hmk
      have k0 := cell_later hmk K0.out
      have k1 := cell_later hmk K1.out
      replace HB := Lib.hid (HB.out.trans (hmk.mono HB.out.size))
      clear hmk hgc R1 K0 K1
      go_wp2_with fail
      refine (specCodeDistances_read _ _ _ _ _ _ _ _ _ _ _ L R m hs hi V.out.1 V.out.2).mono ?_
      rintro e w3 ⟨g3, gcap3, rfl, hg3, hgc3, hmk⟩
      replace hs := hs.below hmk
      replace hi := hi.below hmk
      replace hg := hg.below hmk
      replace k0 := cell_later hmk k0
      replace k1 := cell_later hmk k1
      replace HB := Lib.hid (HB.out.trans (hmk.mono HB.out.size))
      clear hmk
      clear hgc3
      have D1 := Lib.hid (equalInts_any w3 _ _ _ _ _ _ gcap gcap3 _ _ hg hg3)
      rw [eqL_self, HL.out] at D1
      rw [HL.out]
      clear hg3
      go_wp2_with fail
      refine (D1.out).mono ?_
      rintro e w4 ⟨rfl, hdrw⟩
      replace hs := hs.drawn hdrw
      replace hi := hi.drawn hdrw
      replace hg := hg.drawn hdrw
      replace k0 := hdrw.cell k0
      replace k1 := hdrw.cell k1
      replace HB := Lib.hid (HB.out.trans hdrw.below)
      have HS_w4 := Lib.hid (congrArg Array.size hdrw.heap)
      clear hdrw
      clear D1
      go_wp2_with fail
      have HBE := Lib.hid fun k (hk : k < 16) => enc_best V.out.1 V.out.2 hk
      have HS := Lib.hid fun k (hk : k < 16) => (dis_sum V.out.1 V.out.2 hk).2
      have hbd := (encI_bd V.out.1 m).2.2
      have he := encV_yes V.out.1 V.out.2
      have HD := Lib.hid fun k (hk : k < 16) => decL_vec V.out.1 hk
      have C1 := Lib.hid (implEncodeVector w4 _ _ _ _ _ _ _ cap1 cap1' cv L R m hs hi HCV.out)
      rw [he] at C1
      obtain ⟨c, hc⟩ : ∃ c, encI L R m = c := ⟨_, rfl⟩
      rw [hc] at hbd HBE C1
      clear hc he
      refine (C1.out).mono ?_
      rintro e w5 ⟨rfl, hmk⟩
      replace hs := hs.below hmk
      replace hi := hi.below hmk
      replace hg := hg.below hmk
      replace k0 := cell_later hmk k0
      replace k1 := cell_later hmk k1
      replace HB := Lib.hid (HB.out.trans (hmk.mono HB.out.size))
      clear hmk
      have HCL : Hid (∀ (w' : World) (k : Nat), Below w5.heap.size w5 w' → k < 16 → w'.cell? ⟨g, k, none⟩ = some (.int .i64 (dst 3 (decL L R k) m 4))) := Lib.hid fun w' k bl hk => by
        obtain ⟨b', off', ha, _, _, hcell, _⟩ := hg.at_ (k := k) (by rw [HL.out]; exact hk)
        simp only [Option.some.injEq, Addr.mk.injEq] at ha
        obtain ⟨rfl, rfl, _⟩ := ha
        rw [Nat.zero_add, disL_get hk] at hcell
        exact cell_later bl hcell
      have K0 := Lib.hid k0
      have K1 := Lib.hid k1
      have E4 : Hid (∀ k, k < 16 → (decL L R k).length = 4) := Lib.hid fun k hk => by have := vecB_len (HD.out k hk); omega
      clear k0 k1 hg C1
      go_wp2_with fail
      go_loopw [7] (fun i wr => ∃ k : Nat, k ≤ 16 ∧ i = .int .i64 (k : Int) ∧ Hid (Below w5.heap.size w5 wr)) (fun i _ => 16 - (intOf i).toNat)
      case atStart => exact ⟨0, Nat.zero_le _, rfl, Below.refl _ _⟩
      case round =>
        obtain ⟨k, hk, rfl, HW⟩ := hrel
        by_cases hlt : k < 16
        · have d1 : Below wr.heap.size wr wr.drew := (Below.refl _ _).drew
          have HW1 := Lib.hid (HW.out.trans (d1.mono HW.out.size))
          have hs6 := Lib.hid (hs.below HW1.out)
          have hi6 := Lib.hid (hi.below HW1.out)
          have k0 := cell_later HW.out K0.out
          have k1 := cell_later HW.out K1.out
          have k2 := HCL.out wr k HW.out hlt
          have k3 := HCL.out wr c HW.out hbd
          change wr.cell? ⟨w1.heap.size, 0, none⟩ = some (.slice a1 L.length cap1) at k0
          change wr.cell? ⟨w1.heap.size, 1, none⟩ = some (.slice b1 R.length cap1') at k1
          have KD := Lib.hid (show ∀ w', Below wr.heap.size wr.drew w' → w'.cell? ⟨w1.heap.size, 0, none⟩ = some (.slice a1 L.length cap1) ∧ w'.cell? ⟨w1.heap.size, 1, none⟩ = some (.slice b1 R.length cap1') ∧ w'.cell? ⟨g, k, none⟩ = some (.int .i64 (dst 3 (decL L R k) m 4)) ∧ w'.cell? ⟨g, c, none⟩ = some (.int .i64 (dst 3 (decL L R c) m 4)) from fun w' bl => ⟨cell_later (d1.trans bl) k0, cell_later (d1.trans bl) k1, cell_later (d1.trans bl) k2, cell_later (d1.trans bl) k3⟩)
          have DC := Lib.hid (implDecodeVector_read wr.drew _ _ a1 b1 cap1 cap1' L R k hs6.out V.out.1 hlt)
          have VK := Lib.hid (HD.out k hlt)
          have hbb := (HBE.out k hlt).1
          have t1 := HS.out k hlt
          have t2 := HS.out c hbd
          have EK := Lib.hid (E4.out k hlt)
          obtain ⟨x, ex⟩ : ∃ d, dst 3 (decL L R k) m 4 = d := ⟨_, rfl⟩
          have EX := Lib.hid ex
          rw [ex] at k2 hbb t1 KD
          obtain ⟨y, ey⟩ : ∃ d, dst 3 (decL L R c) m 4 = d := ⟨_, rfl⟩
          rw [ey] at k3 hbb t2 KD
          clear ex ey d1
          have hkl : (k : Int) < 16 := by omega
          have hcl : (c : Int) < 16 := by omega
          have hc0 : decide ((c : Int) < 0) = false := decide_eq_false (by omega)
          have hc1 : decide ((16 : Int) ≤ (c : Int)) = false := decide_eq_false (by omega)
          have hxy : decide (x < y) = false := decide_eq_false (by omega)
          go_wp2_with fail
          go_region_held3 (fun w' => w'.cell? ⟨w1.heap.size, 0, none⟩ = some (.slice a1 L.length cap1) ∧ w'.cell? ⟨w1.heap.size, 1, none⟩ = some (.slice b1 R.length cap1') ∧ w'.cell? ⟨g, k, none⟩ = some (.int .i64 x) ∧ w'.cell? ⟨g, c, none⟩ = some (.int .i64 y))
            (first | go_keep | exact KD.out _ (Below.refl _ _) | exact KD.out _ HW6.out | exact KD.out _ HW7.out)
            (first
              | (go_at_call 22; refine DC.out.mono ?_; rintro e w6 ⟨g6, gcap6, rfl, hg6, hgc6, hmk⟩; rw [EK.out]; have HW6 := Lib.hid hmk; have hi7 := Lib.hid (hi6.out.below hmk); have HG6 := Lib.hid hg6; clear hg6 hgc6 hmk)
              | (go_at_call 37; have DD := implDistanceOf w6 _ _ _ _ _ _ gcap6 cv (decL L R k) m 3 HG6.out hi7.out (by omega) VK.out V.out.2; rw [EK.out, EX.out] at DD; refine DD.mono ?_; rintro e w7 ⟨rfl, hdrw⟩; have HW7 := Lib.hid (HW6.out.trans hdrw.below); clear hdrw DD))
          go_wp2_with fail
          go_roundw
          case rel => exact ⟨k + 1, by omega, by go_num, HW1.out.trans (HW7.out.mono HW1.out.size)⟩
          case measure => simp [intOf]; omega
        · go_wp2_with fail
          go_ret
          have HBB := HB.out
          exact ⟨rfl, HBB.trans (HW.out.mono HBB.size)⟩
    · have HN := Lib.hid hv
      clear hv
      go_wp2_with fail
      refine (implCodeDistances_no _ _ _ _ _ _ _ _ _ _ _ _ _ _ hs hi HN.out).mono ?_
      rintro e w2 ⟨rfl, hmk⟩
      replace hs := hs.below hmk
      replace hi := hi.below hmk
      have k0 := cell_later hmk K0.out
      have k1 := cell_later hmk K1.out
      replace HB := Lib.hid (HB.out.trans (hmk.mono HB.out.size))
      clear hmk
      go_wp2_with fail
      refine (specCodeDistances_no _ _ _ _ _ _ _ _ _ _ _ _ _ _ hs hi HN.out).mono ?_
      rintro e w3 ⟨rfl, hmk⟩
      replace hs := hs.below hmk
      replace hi := hi.below hmk
      replace k0 := cell_later hmk k0
      replace k1 := cell_later hmk k1
      replace HB := Lib.hid (HB.out.trans (hmk.mono HB.out.size))
      clear hmk
      go_wp2_with fail
      refine (equalInts_any w3 0 0 0 0 none none 0 0 [] [] (Ints.nil _ _ _ _) (Ints.nil _ _ _ _)).mono ?_
      rintro e w4 ⟨rfl, hdrw⟩
      replace hs := hs.drawn hdrw
      replace hi := hi.drawn hdrw
      replace k0 := hdrw.cell k0
      replace k1 := hdrw.cell k1
      replace HB := Lib.hid (HB.out.trans hdrw.below)
      have HS_w4 := Lib.hid (congrArg Array.size hdrw.heap)
      clear hdrw
      rw [eqL_self]
      go_wp2_with fail
      refine (specCodeDistances_no _ _ _ _ _ _ _ _ _ _ _ _ _ _ hs hi HN.out).mono ?_
      rintro e w5 ⟨rfl, hmk⟩
      replace hs := hs.below hmk
      replace HB := Lib.hid (HB.out.trans (hmk.mono HB.out.size))
      clear hmk
      go_wp2_with fail
      refine (equalInts_any w5 0 0 0 0 none none 0 0 [] [] (Ints.nil _ _ _ _) (Ints.nil _ _ _ _)).mono ?_
      rintro e w6 ⟨rfl, hdrw⟩
      replace HB := Lib.hid (HB.out.trans hdrw.below)
      have HS_w6 := Lib.hid (congrArg Array.size hdrw.heap)
      clear hdrw
      rw [eqL_self]
      go_wp2_with fail
      go_ret
      exact ⟨rfl, HB.out⟩
theorem own : ownKnob Try.prog.godebug = none := by kernel_rfl
theorem laidOut : laidOutB Try.prog = true := by kernel_rfl

set_option maxRecDepth 100000 in
theorem lifted (os : Os) (started : os.Started) (H : Type) (enc : TypeId × Value → H) :
    ReturnsInHanded {} Try.checked os 14 .any (Rows.fnCodeDistancesSpec.pre6 enc Try.prog Try.f14 Rows.fnCodeDistancesRow.domain false) (Rows.fnCodeDistancesSpec.post enc Try.prog Try.f14 false true false false) := by
  refine returnsInHanded_of_change (C := Try.checked) own started (by kernel_rfl) Try.func14
    (ChangeSpec.witness6 (enc := enc) (C := Try.checked) false ⟨#[], #[.slice none 0 0], []⟩ 8 (by kernel_rfl) (by kernel_rfl) (by kernel_rfl) (by kernel_rfl)) ?_
  intro W base args ds gs before hval0 hW hcnd _
  have hval : ∀ (j : Nat) t v, Try.f14.params[j]? = some t → args[j]? = some v → Value.okWide Try.prog W .any base t v := hval0
  have hW' := hW
  obtain ⟨p, q, hA0, hV, rfl, hfz, hnd⟩ := hW
  have hA : DataW.TrodAll enc Try.prog W 0 (fun _ => true) true Try.f14.params.toList args.toList ds p := hA0
  rw [Try.params14] at hA hval
  obtain ⟨v0, vs0, d0, ds0, p0, q0, hargs, rfl, rfl, h0, r0⟩ := trodAll_cons hA
  obtain ⟨rfl, rfl, rfl⟩ := trodAll_nil r0
  obtain rfl : args = #[v0] := by cases args; simp_all
  obtain ⟨rfl, rfl⟩ := trodVars_none hV
  obtain ⟨a0, len0, cap0, rfl⟩ := okWide_slice Try.underlying22 (hval 0 22 v0 rfl rfl)
  have k0 := h0
  have lt0 : ∀ x ∈ p0, x.block < W.heap.size := by obtain ⟨m, hm⟩ := k0; exact DataW.trod_lt m _ _ _ hm
  obtain ⟨z0, w0⟩ : ∃ zs, IsRow .u8 W a0 len0 cap0 zs := by
    obtain ⟨fuel, hf⟩ := h0
    rcases open_ints Try.underlying22 Try.underlying5 (by kernel_rfl) hf with ⟨hcs, _⟩ | ⟨x, l, c, zs, hcs, _, hl, hm, hz, _, hcell, hwz⟩
    · simp [Value.cells] at hcs
      obtain ⟨rfl, rfl, rfl⟩ := hcs
      exact ⟨[], .inl ⟨rfl, rfl, rfl, rfl⟩⟩
    · simp [Value.cells] at hcs
      obtain ⟨rfl, rfl, rfl⟩ := hcs
      exact ⟨zs, .inr ⟨_, rfl, hl, hm, by simpa using hz, hcell, hwz⟩⟩
  clear hA0 hval0
  refine (walk a0 len0 cap0 z0 W w0).mono fun e W' ⟨he, bel⟩ => ?_
  subst he
  exact ⟨_, rfl, _, _, _, [], _, [], hW', trodAll_mk1 (shut_bool Try.underlying4 _), (trodAll_cons_mk (Below.trod laidOut (by kernel_rfl) (of_decide_eq_true (by kernel_rfl)) k0 bel lt0) trodAll_mk0), rfl, bel.frame _, fun h => by cases h⟩

theorem over : Rows.fnCodeDistancesRow.holds Try.pinned (OpenSpec.ofChange Rows.fnCodeDistancesSpec) :=
  OpenClaim.holds_of_wide 14 Try.f14 rfl rfl rfl rfl rfl rfl rfl ⟨rfl, rfl, rfl, rfl, rfl⟩ rfl rfl rfl rfl rfl (by kernel_rfl) Try.func14 (by kernel_rfl)
    (of_decide_eq_true (by kernel_rfl)) (by unfold Func.isWrapper; first | (rw [if_pos (by decide +kernel)]; kernel_rfl) | (rw [if_neg (by decide +kernel)]; exact ⟨rfl, rfl⟩))
    (fun os started H enc _ => lifted os started H enc)

/-- THE STATEMENT -/
theorem proved : Rows.FnCodeDistancesSaid :=
  over
#print axioms proved
end Go.Proofs.Ytnfjbjlcglfabaa.fnCodeDistances
