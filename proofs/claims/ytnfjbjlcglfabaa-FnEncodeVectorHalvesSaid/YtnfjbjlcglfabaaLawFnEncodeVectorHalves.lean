/-
  For all codes: of the book and the vector that the code draws: EncodeVector of the first half of the vector with zeros, and of zeros with its second half, has the halves of the code of the vector. No condition.
-/
import Derived.Test.YtnfjbjlcglfabaaRows
import Derived.Test.YtnfjbjlcglfabaaDisTops
import Derived.Test.YtnfjbjlcglfabaaDrawBookTops
import Derived.Deep.RegionHeld3
import Derived.Deep.AppendLies
import Derived.ProofKit
import Derived.OpenShut
import Derived.ShutString
import Derived.ChangeOld
namespace Go.Proofs.Ytnfjbjlcglfabaa.fnEncodeVectorHalves
open Go.ChangeShapes Go.WideShapes Go.ChangeAt Go.RowKit
set_option linter.unusedVariables false

set_option maxHeartbeats 1000000 in
theorem walk (a0 : Option Addr) (len0 cap0 : Nat) (z0 : List Int) (w : World) (w0 : IsRow .u8 w a0 len0 cap0 z0) :
    Calls Try.prog 9 #[.slice a0 len0 cap0] w fun e w' => e = .returned (.bool true) ∧ Below w.heap.size w w' := by
  by_cases hl : 1048576 < len0
  · clear w0
    go_enter Try.func9, Try.ntmps9
    go_wp2
    go_ret
    exact ⟨rfl, Below.refl _ _⟩
  · have H := Lib.hid (bytes_of_row w0 (by omega))
    clear w0
    go_enter Try.func9, Try.ntmps9
    go_wp2_with fail
    refine (DrawEncodeVector_any _ _ _ _ _ H.out).mono ?_
    rintro e w1 ⟨a1, b1, cap1, cap1', L, R, v, cv, m, rfl, ⟨hl, -, -⟩, ⟨hi, hcv⟩, hq, hb⟩
    have HB : Hid (Below w.heap.size w (w1.alloc (.cells #[.slice a1 L.length cap1, .slice b1 R.length cap1'] 25))) := Lib.hid (hb.alloc hb.size _)
    have hs : Sides (w1.alloc (.cells #[.slice a1 L.length cap1, .slice b1 R.length cap1'] 25)) w.heap.size w1.heap.size a1 b1 L R := hl.below ((Below.refl _ _).alloc (Nat.le_refl _) _)
    replace hi : Ints (w1.alloc (.cells #[.slice a1 L.length cap1, .slice b1 R.length cap1'] 25)) w.heap.size w1.heap.size v m := hi.below ((Below.refl _ _).alloc (Nat.le_refl _) _)
    have k0 := cell_new w1 #[.slice a1 L.length cap1, .slice b1 R.length cap1'] 25 0
    have k1 := cell_new w1 #[.slice a1 L.length cap1, .slice b1 R.length cap1'] 25 1
    have K0 := Lib.hid k0
    have K1 := Lib.hid k1
    have HCV := Lib.hid hcv
    clear hb hl k0 k1 hcv

    go_wp2_with fail
    refine (implEncodeVector _ _ _ _ _ _ _ _ _ _ _ L R m hs hi HCV.out).mono ?_
    rintro e w2 ⟨rfl, hmk⟩
    replace hs := hs.below hmk
    replace hi := hi.below hmk
    have k0 := cell_later hmk K0.out
    have k1 := cell_later hmk K1.out
    replace HB := Lib.hid (HB.out.trans (hmk.mono HB.out.size))
    clear hmk K0 K1
    go_wp2_with fail
    refine (specEncodeVector _ _ _ _ _ _ _ _ _ _ _ L R m hs hi HCV.out).mono ?_
    rintro e w3 ⟨rfl, hmk⟩
    replace hs := hs.below hmk
    replace hi := hi.below hmk
    replace k0 := cell_later hmk k0
    replace k1 := cell_later hmk k1
    replace HB := Lib.hid (HB.out.trans (hmk.mono HB.out.size))
    clear hmk
    by_cases hv : bookB L R = true ∧ vecB m 4 = true
    · have he := encV_yes hv.1 hv.2
      have hbd := (encI_bd hv.1 m).2.2
      have hm4 : m.length = 4 := by have := vecB_len hv.2; omega
      have V := Lib.hid hv
      have HM4 := Lib.hid hm4
      rw [he]
      clear he hv hm4
      obtain ⟨i0, hi0, hz0, hz1, hz2⟩ := info_parts infoInt
      have P := Lib.hid (enc_halves V.out.1 V.out.2)
      obtain ⟨c, hc⟩ : ∃ c, encI L R m = c := ⟨_, rfl⟩
      rw [hc] at hbd P ⊢
      clear hc
      have hmk : ∀ w, (Instr.makeSlice 36 (.int .i64 2) (.int .i64 2)).run Try.prog w = .ok (.slice (some ⟨w.heap.size, 0, none⟩) 2 2) (w.alloc (.cells #[.int .i64 0, .int .i64 0] 3)) := fun _ => by kernel_rfl
      have hiz : Ints (w3.alloc (.cells #[.int .i64 0, .int .i64 0] 3)) w3.heap.size (w3.heap.size + 1) (some ⟨w3.heap.size, 0, none⟩) [0, 0] := ints_lit w3 [0, 0] 3 (by simp) (by simp)
      have B5 : Below w3.heap.size w3 (w3.alloc (.cells #[.int .i64 0, .int .i64 0] 3)) := (Below.refl _ _).alloc (Nat.le_refl _) _
      obtain ⟨qv, uv, rfl, _, hqv, _⟩ := hi.cells (by intro e; have := HM4.out; rw [e] at this; simp at this)
      have hcv1 := HCV.out.1
      have hcv2 := HCV.out.2
      rw [HM4.out] at hcv1
      have hcv3 : (2 : Int) ≤ (cv : Int) := by omega
      have hcv4 : 2 ≤ cv := by omega
      have hcv6 : ¬ cv = 2 := by omega
      rw [HM4.out]
      go_wp2_with fail
      replace hs := hs.below B5
      replace hi := hi.below B5
      replace k0 := cell_later B5 k0
      replace k1 := cell_later B5 k1
      change _ = some (Value.slice a1 L.length cap1) at k0
      change _ = some (Value.slice b1 R.length cap1') at k1
      replace HB := Lib.hid (HB.out.trans (B5.mono HB.out.size))
      have hz3 : Hid (w3.heap.size < (w3.alloc (.cells #[.int .i64 0, .int .i64 0] 3)).heap.size) := Lib.hid (by simp)
      obtain ⟨z, hz⟩ : ∃ z, w3.heap.size = z := ⟨_, rfl⟩
      rw [hz] at hiz hz3 ⊢
      clear B5 hmk
      obtain ⟨w5, hw5⟩ : ∃ w5, w3.alloc (.cells #[.int .i64 0, .int .i64 0] 3) = w5 := ⟨_, rfl⟩
      rw [hw5] at hs hi k0 k1 HB hiz hz3 ⊢
      clear hw5 hz
      have hz5 := hz3.out
      have lk := World.block_lt_of_cell? w5 _ k0
      have HIT := hi.take 2
      have HID := hi.drop 2
      obtain ⟨b', off', ha', _, _, hxc⟩ := HIT.cells (by intro e; have := congrArg List.length e; rw [List.length_take, HM4.out] at this; simp at this)
      simp only [Option.some.injEq, Addr.mk.injEq] at ha'
      obtain ⟨rfl, rfl, _⟩ := ha'
      obtain ⟨b', off', ha', _, _, hyc⟩ := HID.cells (by intro e; have := congrArg List.length e; rw [List.length_drop, HM4.out] at this; simp at this)
      simp only [Option.some.injEq, Addr.mk.injEq] at ha'
      obtain ⟨rfl, rfl, _⟩ := ha'
      obtain ⟨b', off', ha', _, _, hzc⟩ := hiz.cells (by simp)
      simp only [Option.some.injEq, Addr.mk.injEq] at ha'
      obtain ⟨rfl, rfl, _⟩ := ha'
      have NX := Lib.hid (news_of_ints (lo := 0) (hi := 0) hxc)
      have NY := Lib.hid (news_of_ints (lo := 0) (hi := 0) hyc)
      have NZ := Lib.hid (news_of_ints (lo := 0) (hi := 0) hzc)
      have LX : Hid (((m.take 2).map (Value.int .i64)).length = 2) := Lib.hid (by simp [HM4.out])
      have LY : Hid (((m.drop 2).map (Value.int .i64)).length = 2) := Lib.hid (by simp [HM4.out])
      clear hxc hyc hzc HIT HID
      have lqv : qv < w5.heap.size := by
        have := HB.out.size
        have := hi.at_ (k := 0) (by rw [HM4.out]; omega)
        obtain ⟨b', off', ha', _, _, hc0, _⟩ := this
        simp only [Option.some.injEq, Addr.mk.injEq] at ha'
        obtain ⟨rfl, rfl, _⟩ := ha'
        exact World.block_lt_of_cell? w5 _ hc0
      have HE_a : Hid (World.ownsRow (w5.alloc (.cells #[] 3)).drew w5.heap.size 3 1 (.slice (some ⟨w5.heap.size, 0, none⟩) 0 0) 0 []) := Lib.hid (owns_empty w5 w5.heap.size 3 1 (Nat.le_refl _)).drew
      have B_a : Hid (Below w5.heap.size w5 (w5.alloc (.cells #[] 3)).drew) := Lib.hid (((Below.refl _ _).alloc (Nat.le_refl _) _).drew)
      have KD_a := Lib.hid (show ∀ w', Below w5.heap.size w5 w' → w'.cell? ⟨w1.heap.size, 0, none⟩ = some (.slice a1 L.length cap1) ∧ w'.cell? ⟨w1.heap.size, 1, none⟩ = some (.slice b1 R.length cap1') from fun w' bl => ⟨cell_later bl k0, cell_later bl k1⟩)
      go_region_held3 (fun w' => w'.cell? ⟨w1.heap.size, 0, none⟩ = some (.slice a1 L.length cap1) ∧ w'.cell? ⟨w1.heap.size, 1, none⟩ = some (.slice b1 R.length cap1'))
        (first | go_keep | exact KD_a.out _ B_a.out | exact KD_a.out _ ((B_a.out.grown hg1 (by have := B_a.out.size; omega) (owns_block HE_a.out))) | exact KD_a.out _ BA.out | exact KD_a.out _ ((Below.refl _ _).drew) | exact KD_a.out _ BC.out)
        (first
          | (refine step_append_lies _ (by rfl) (.tmp 38) (.tmp 41) 36 (by rfl) w5.heap.size 3 i0 (.int .i64 0) 1 8 Try.underlying36 hi0 hz0 hz1 hz2 rfl (by omega) (.slice (some ⟨w5.heap.size, 0, none⟩) 0 0) 0 [] (by rfl) HE_a.out ⟨qv, uv, none⟩ 2 cv ((m.take 2).map (Value.int .i64)) (by rfl) (by rw [LX.out]) (fun j u hj => cell_later B_a.out (NX.out j u hj)) (ints_cells _) (by omega) (by unfold maxLen; omega) (by omega) (by simp) (w5.heap.size + 1) (by simp) ?_; intro g1 c1 wa hown1 hg1 hat1 hlt1; have hq1 : w5.heap.size ≤ g1 := (hat1.elim (fun h => by simp [Value.ownBlock] at h; omega) (fun h => by omega)))
          | (refine step_append_lies _ (by rfl) (.tmp 42) (.tmp 43) 36 (by rfl) w5.heap.size 3 i0 (.int .i64 0) 1 8 Try.underlying36 hi0 hz0 hz1 hz2 rfl (by omega) (.slice (some ⟨g1, 0, none⟩) (0 + 2) c1) (0 + 2) ([] ++ (m.take 2).map (Value.int .i64)) (by rfl) hown1 ⟨z, 0, none⟩ 2 2 ([0, 0].map (Value.int .i64)) (by rfl) (by rfl) (fun j u hj => cell_later (B_a.out.grown hg1 (by have := B_a.out.size; omega) (owns_block HE_a.out)) (NZ.out j u hj)) (ints_cells _) (by omega) (by unfold maxLen; omega) (by omega) (by have := B_a.out.size; have := hg1.size; omega) _ rfl ?_; intro g2 c2 wb hown2 hg2 hat2 hlt2; have BA : Hid (Below w5.heap.size w5 wb) := Lib.hid ((B_a.out.grown hg1 (by have := B_a.out.size; omega) (owns_block HE_a.out)).grown hg2 (by have := B_a.out.size; have := hg1.size; omega) (owns_block hown1)))
          | (go_at_call 30; have HO2 : wb.ownsRow w5.heap.size 3 1 (.slice (some ⟨g2, 0, none⟩) 4 c2) 4 ((m.take 2 ++ [0, 0]).map (Value.int .i64)) := (by rw [List.map_append]; simpa using hown2); obtain ⟨ag, cg, hgg, hid⟩ := ints_of_owns HO2 (fun x hx => by have := coordsB_ok (vecB_coords P.out.1) x hx; omega) (by omega); simp only [Value.slice.injEq] at hgg; obtain ⟨rfl, hl4, rfl⟩ := hgg; have C2 := implEncodeVector wb _ _ _ _ _ _ _ cap1 cap1' c2 L R (m.take 2 ++ [0, 0]) (hs.below BA.out) hid (by rw [← hl4]; exact owns_cap HO2); rw [← hl4, encV_yes V.out.1 P.out.1] at C2; refine C2.mono ?_; rintro e wc ⟨rfl, hmk⟩; have BC := Lib.hid (BA.out.trans (hmk.mono BA.out.size)); clear hmk C2 hid HO2 hl4))
      replace hs := hs.below BC.out
      replace k0 := cell_later BC.out k0
      replace k1 := cell_later BC.out k1
      replace HB := Lib.hid (HB.out.trans (BC.out.mono HB.out.size))
      have NY6 := Lib.hid (fun j u hj => cell_later BC.out (NY.out j u hj))
      have NZ6 := Lib.hid (fun j u hj => cell_later BC.out (NZ.out j u hj))
      have hs6 := BC.out.size
      clear hown1 hg1 hat1 hlt1 hown2 hg2 hat2 hlt2 hq1 BA hi
      obtain ⟨x, hx⟩ : ∃ x, encI L R (m.take 2 ++ [0, 0]) = x := ⟨_, rfl⟩
      have Q := P.out
      rw [hx] at Q ⊢
      clear hx
      have x16 := Q.2.2.2.2.1
      have ex := Q.2.2.1
      clear Q
      (try simp only [Exit.inBlock, Exit.then])
      obtain ⟨y, hy⟩ : ∃ y, encI L R ([0, 0] ++ m.drop 2) = y := ⟨_, rfl⟩
      have HY := Lib.hid hy
      clear hy
      have hcv5 : (2 : Int) ≤ 4 := by omega
      have HE_b : Hid (World.ownsRow (wc.alloc (.cells #[] 3)).drew wc.heap.size 3 1 (.slice (some ⟨wc.heap.size, 0, none⟩) 0 0) 0 []) := Lib.hid (owns_empty wc wc.heap.size 3 1 (Nat.le_refl _)).drew
      have B_b : Hid (Below wc.heap.size wc (wc.alloc (.cells #[] 3)).drew) := Lib.hid (((Below.refl _ _).alloc (Nat.le_refl _) _).drew)
      have KD_b := Lib.hid (show ∀ w', Below wc.heap.size wc w' → w'.cell? ⟨w1.heap.size, 0, none⟩ = some (.slice a1 L.length cap1) ∧ w'.cell? ⟨w1.heap.size, 1, none⟩ = some (.slice b1 R.length cap1') from fun w' bl => ⟨cell_later bl k0, cell_later bl k1⟩)
      go_wp2_with fail
      go_region_held3 (fun w' => w'.cell? ⟨w1.heap.size, 0, none⟩ = some (.slice a1 L.length cap1) ∧ w'.cell? ⟨w1.heap.size, 1, none⟩ = some (.slice b1 R.length cap1'))
        (first | go_keep | exact KD_b.out _ B_b.out | exact KD_b.out _ ((B_b.out.grown hg1 (by have := B_b.out.size; omega) (owns_block HE_b.out))) | exact KD_b.out _ BA.out | exact KD_b.out _ ((Below.refl _ _).drew) | exact KD_b.out _ BD.out)
        (first
          | (refine step_append_lies _ (by rfl) (.tmp 47) (.tmp 48) 36 (by rfl) wc.heap.size 3 i0 (.int .i64 0) 1 8 Try.underlying36 hi0 hz0 hz1 hz2 rfl (by omega) (.slice (some ⟨wc.heap.size, 0, none⟩) 0 0) 0 [] (by rfl) HE_b.out ⟨z, 0, none⟩ 2 2 ([0, 0].map (Value.int .i64)) (by rfl) (by rfl) (fun j u hj => cell_later B_b.out (NZ6.out j u hj)) (ints_cells _) (by omega) (by unfold maxLen; omega) (by omega) (by simp) (wc.heap.size + 1) (by simp) ?_; intro g1 c1 wa hown1 hg1 hat1 hlt1; have hq1 : wc.heap.size ≤ g1 := (hat1.elim (fun h => by simp [Value.ownBlock] at h; omega) (fun h => by omega)))
          | (refine step_append_lies _ (by rfl) (.tmp 49) (.tmp 52) 36 (by rfl) wc.heap.size 3 i0 (.int .i64 0) 1 8 Try.underlying36 hi0 hz0 hz1 hz2 rfl (by omega) (.slice (some ⟨g1, 0, none⟩) (0 + 2) c1) (0 + 2) ([] ++ [0, 0].map (Value.int .i64)) (by rfl) hown1 ⟨qv, uv + 2, none⟩ 2 (cv - 2) ((m.drop 2).map (Value.int .i64)) (by rfl) (by rw [LY.out]) (fun j u hj => cell_later (B_b.out.grown hg1 (by have := B_b.out.size; omega) (owns_block HE_b.out)) (NY6.out j u hj)) (ints_cells _) (by omega) (by unfold maxLen; omega) (by omega) (by have := B_b.out.size; have := hg1.size; omega) _ rfl ?_; intro g2 c2 wb hown2 hg2 hat2 hlt2; have BA : Hid (Below wc.heap.size wc wb) := Lib.hid ((B_b.out.grown hg1 (by have := B_b.out.size; omega) (owns_block HE_b.out)).grown hg2 (by have := B_b.out.size; have := hg1.size; omega) (owns_block hown1)))
          | (go_at_call 30; have HO2 : wb.ownsRow wc.heap.size 3 1 (.slice (some ⟨g2, 0, none⟩) 4 c2) 4 (([0, 0] ++ m.drop 2).map (Value.int .i64)) := (by rw [List.map_append]; simpa using hown2); obtain ⟨ag, cg, hgg, hid⟩ := ints_of_owns HO2 (fun x hx => by have := coordsB_ok (vecB_coords P.out.2.1) x hx; omega) (by omega); simp only [Value.slice.injEq] at hgg; obtain ⟨rfl, hl4, rfl⟩ := hgg; have C2 := implEncodeVector wb _ _ _ _ _ _ _ cap1 cap1' c2 L R ([0, 0] ++ m.drop 2) (hs.below BA.out) hid (by rw [← hl4]; exact owns_cap HO2); rw [← hl4, encV_yes V.out.1 P.out.2.1, HY.out] at C2; refine C2.mono ?_; rintro e wd ⟨rfl, hmk⟩; have BD := Lib.hid (BA.out.trans (hmk.mono BA.out.size)); clear hmk C2 hid HO2 hl4))
      replace HB := Lib.hid (HB.out.trans (BD.out.mono HB.out.size))
      clear hown1 hg1 hat1 hlt1 hown2 hg2 hat2 hlt2 hq1 BA
      have Q := P.out
      rw [HY.out] at Q
      have y16 := Q.2.2.2.2.2
      have ey := Q.2.2.2.1
      clear Q
      have e1 : ((x : Int) / 4 == (c : Int) / 4) = true := by simp; omega
      have e2 : ((y : Int) % 4 == (c : Int) % 4) = true := by simp; omega
      clear ex ey
      go_wp2_with fail
      go_ret
      exact ⟨rfl, HB.out⟩
    · have he : encV L R m = -1 := by
        cases h1 : bookB L R
        · exact encV_no1 h1
        · cases h2 : vecB m 4
          · exact encV_no2 h2
          · exact absurd ⟨h1, h2⟩ hv
      clear hv
      rw [he]
      go_wp2_with fail
      refine (specEncodeVector _ _ _ _ _ _ _ _ _ _ _ L R m hs hi HCV.out).mono ?_
      rintro e w4 ⟨rfl, hmk⟩
      replace hs := hs.below hmk
      replace HB := Lib.hid (HB.out.trans (hmk.mono HB.out.size))
      clear hmk
      rw [he]
      go_wp2_with fail
      go_ret
      exact ⟨rfl, HB.out⟩
theorem own : ownKnob Try.prog.godebug = none := by kernel_rfl
theorem laidOut : laidOutB Try.prog = true := by kernel_rfl

set_option maxRecDepth 100000 in
theorem lifted (os : Os) (started : os.Started) (H : Type) (enc : TypeId × Value → H) :
    ReturnsInHanded {} Try.checked os 9 .any (Rows.fnEncodeVectorHalvesSpec.pre6 enc Try.prog Try.f9 Rows.fnEncodeVectorHalvesRow.domain false) (Rows.fnEncodeVectorHalvesSpec.post enc Try.prog Try.f9 false true false false) := by
  refine returnsInHanded_of_change (C := Try.checked) own started (by kernel_rfl) Try.func9
    (ChangeSpec.witness6 (enc := enc) (C := Try.checked) false ⟨#[], #[.slice none 0 0], []⟩ 8 (by kernel_rfl) (by kernel_rfl) (by kernel_rfl) (by kernel_rfl)) ?_
  intro W base args ds gs before hval0 hW hcnd _
  have hval : ∀ (j : Nat) t v, Try.f9.params[j]? = some t → args[j]? = some v → Value.okWide Try.prog W .any base t v := hval0
  have hW' := hW
  obtain ⟨p, q, hA0, hV, rfl, hfz, hnd⟩ := hW
  have hA : DataW.TrodAll enc Try.prog W 0 (fun _ => true) true Try.f9.params.toList args.toList ds p := hA0
  rw [Try.params9] at hA hval
  obtain ⟨v0, vs0, d0, ds0, p0, q0, hargs, rfl, rfl, h0, r0⟩ := trodAll_cons hA
  obtain ⟨rfl, rfl, rfl⟩ := trodAll_nil r0
  obtain rfl : args = #[v0] := by cases args; simp_all
  obtain ⟨rfl, rfl⟩ := trodVars_none hV
  obtain ⟨a0, len0, cap0, rfl⟩ := okWide_slice Try.underlying22 (hval 0 22 v0 rfl rfl)
  have k0 := h0
  have lt0 : ∀ x ∈ p0, x.block < W.heap.size := by obtain ⟨m, hm⟩ := k0; exact DataW.trod_lt m _ _ _ hm
  obtain ⟨z0, w0⟩ : ∃ zs, IsRow .u8 W a0 len0 cap0 zs := by
    obtain ⟨fuel, hf⟩ := h0
    rcases open_ints Try.underlying22 Try.underlying5 (by kernel_rfl) hf with ⟨hcs, _⟩ | ⟨x, l, c, zs, hcs, _, hl, hm, hz, _, hcell, hwz⟩
    · simp [Value.cells] at hcs
      obtain ⟨rfl, rfl, rfl⟩ := hcs
      exact ⟨[], .inl ⟨rfl, rfl, rfl, rfl⟩⟩
    · simp [Value.cells] at hcs
      obtain ⟨rfl, rfl, rfl⟩ := hcs
      exact ⟨zs, .inr ⟨_, rfl, hl, hm, by simpa using hz, hcell, hwz⟩⟩
  clear hA0 hval0
  refine (walk a0 len0 cap0 z0 W w0).mono fun e W' ⟨he, bel⟩ => ?_
  subst he
  exact ⟨_, rfl, _, _, _, [], _, [], hW', trodAll_mk1 (shut_bool Try.underlying4 _), (trodAll_cons_mk (Below.trod laidOut (by kernel_rfl) (of_decide_eq_true (by kernel_rfl)) k0 bel lt0) trodAll_mk0), rfl, bel.frame _, fun h => by cases h⟩

theorem over : Rows.fnEncodeVectorHalvesRow.holds Try.pinned (OpenSpec.ofChange Rows.fnEncodeVectorHalvesSpec) :=
  OpenClaim.holds_of_wide 9 Try.f9 rfl rfl rfl rfl rfl rfl rfl ⟨rfl, rfl, rfl, rfl, rfl⟩ rfl rfl rfl rfl rfl (by kernel_rfl) Try.func9 (by kernel_rfl)
    (of_decide_eq_true (by kernel_rfl)) (by unfold Func.isWrapper; first | (rw [if_pos (by decide +kernel)]; kernel_rfl) | (rw [if_neg (by decide +kernel)]; exact ⟨rfl, rfl⟩))
    (fun os started H enc _ => lifted os started H enc)

/-- THE STATEMENT -/
theorem proved : Rows.FnEncodeVectorHalvesSaid :=
  over
#print axioms proved
end Go.Proofs.Ytnfjbjlcglfabaa.fnEncodeVectorHalves
