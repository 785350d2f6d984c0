/-
  For all codes: of the book, the store, the vector and the number that the code draws: CodeNearest is what the reference says, and what Nearest finds in the store of the coded vectors. No condition.
-/
import Derived.Test.YtllahaebfhaobaaRows
import Derived.Test.YtllahaebfhaobaaCodeSpec
import Derived.Test.YtllahaebfhaobaaCodeLaws
import Derived.Test.YtllahaebfhaobaaDrawCode
import Derived.Test.YtllahaebfhaobaaHitMark
import Derived.ProofKit
import Derived.OpenShut
import Derived.ShutString
import Derived.ChangeOld
namespace Go.Proofs.Ytllahaebfhaobaa.fnCodeNearestStore
open Go.ChangeShapes Go.WideShapes Go.ChangeAt Go.RowKit
set_option linter.unusedVariables false

set_option maxRecDepth 4000 in
set_option maxHeartbeats 1000000 in
theorem walk (a0 : Option Addr) (len0 cap0 : Nat) (z0 : List Int) (w : World) (w0 : IsRow .u8 w a0 len0 cap0 z0) :
    Calls Try.prog 3 #[.slice a0 len0 cap0] w fun e w' => e = .returned (.bool true) ∧ Below w.heap.size w w' := by
  by_cases hl : 1048576 < len0
  · clear w0
    go_enter Try.func3, Try.ntmps3
    go_wp2
    go_ret
    exact ⟨rfl, Below.refl _ _⟩
  · have H := Lib.hid (bytes_of_row w0 (by omega))
    clear w0
    go_enter Try.func3, Try.ntmps3
    go_wp2_with fail
    refine (DrawCodeNearest_any _ _ _ _ _ H.out).mono ?_
    rintro e w1 ⟨a, b, q, p, cap, cap', capq, capp, L, R, ll, m, k, rfl, ⟨hS0, -, -⟩, ⟨hI0, hcapq⟩, ⟨hM0, hcapp⟩, hq, hk, hb⟩
    have hba := below_alloc w1 (.cells #[.slice a L.length cap, .slice b R.length cap'] 25)
    have K := cells2_new w1 (.slice a L.length cap) (.slice b R.length cap') 25
    obtain ⟨W1, hW1⟩ : ∃ W1, w1.alloc (.cells #[.slice a L.length cap, .slice b R.length cap'] 25) = W1 := ⟨_, rfl⟩
    have hszW : w1.heap.size < W1.heap.size := by rw [← hW1]; simp
    rw [hW1] at hba K
    have HB : Hid (Below w.heap.size w W1) := Lib.hid (hb.trans (hba.mono hb.size))
    have hs := hS0.below hba
    have hi := hI0.below hba
    have hm := hM0.below hba
    obtain ⟨k0, k1⟩ := K
    have hc1 := hcapq.1
    have hc2 := hcapq.2
    have hc3 := hcapp.1
    have hc4 := hcapp.2
    have hq1 := hq.1
    clear hb hcapq hcapp hq hba hS0 hI0 hM0

    go_wp2_with fail
    refine (implCN _ _ _ _ _ _ _ _ _ _ _ _ _ _ _ k L R ll m hs hi hm).mono ?_
    rintro e w2 ⟨g, gc, rfl, ⟨hg, -⟩, hgc, hmk⟩
    replace hs := hs.below hmk
    replace hi := hi.below hmk
    replace hm := hm.below hmk
    replace k0 := cell_later hmk k0
    replace k1 := cell_later hmk k1
    replace HB := Lib.hid (HB.out.trans (hmk.mono HB.out.size))
    have HS_w2 := Lib.hid hmk.size
    clear hmk
    clear hW1
    go_wp2_with fail
    refine (specCN _ _ _ _ _ _ _ _ _ _ _ _ _ _ _ k L R ll m hs hi hm).mono ?_
    rintro e w3 ⟨g3, gc3, rfl, ⟨hg3, -⟩, hgc3, hmk⟩
    replace hs := hs.below hmk
    replace hi := hi.below hmk
    replace hm := hm.below hmk
    replace hg := hg.below hmk
    replace k0 := cell_later hmk k0
    replace k1 := cell_later hmk k1
    replace HB := Lib.hid (HB.out.trans (hmk.mono HB.out.size))
    have HS_w3 := Lib.hid hmk.size
    clear hmk
    go_wp2_with fail
    refine (equalHits_same _ _ _ _ _ _ _ gc gc3 _ hg hg3).mono ?_
    rintro e w4 ⟨rfl, hdrw⟩
    replace hs := hs.drawn hdrw
    replace hi := hi.drawn hdrw
    replace hm := hm.drawn hdrw
    replace hg := hg.drawn hdrw
    replace k0 := hdrw.cell k0
    replace k1 := hdrw.cell k1
    replace HB := Lib.hid (HB.out.trans hdrw.below)
    have HS_w4 := Lib.hid (congrArg Array.size hdrw.heap)
    clear hdrw
    clear hg3 hgc3
    by_cases hz : (cnV L R ll m k).length = 0
    · have hz' : (((cnV L R ll m k).length : Int) == 0) = true := by rw [beq_iff_eq]; omega
      clear hz
      go_wp2_with fail
      refine (specCN _ _ _ _ _ _ _ _ _ _ _ _ _ _ _ k L R ll m hs hi hm).mono ?_
      rintro e w5 ⟨g5, gc5, rfl, ⟨hg5, -⟩, hgc5, hmk⟩
      replace hs := hs.below hmk
      replace hi := hi.below hmk
      replace hm := hm.below hmk
      replace hg := hg.below hmk
      replace HB := Lib.hid (HB.out.trans (hmk.mono HB.out.size))
      clear hmk
      go_wp2_with fail
      refine (equalHits_same _ _ _ _ _ _ _ gc gc5 _ hg hg5).mono ?_
      rintro e w6 ⟨rfl, hdrw⟩
      replace HB := Lib.hid (HB.out.trans hdrw.below)
      have HS_w6 := Lib.hid (congrArg Array.size hdrw.heap)
      clear hdrw
      go_wp2_with fail
      go_ret
      exact ⟨rfl, HB.out⟩
    · have hz' : (((cnV L R ll m k).length : Int) == 0) = false := by rw [beq_eq_false_iff_ne]; omega
      have hcn := cnV_ne hz
      have HV := Lib.hid (cnB_book hcn)
      have hst := qryB_store (findB_qry (cnB_find hcn))
      have HST := Lib.hid hst
      have HEQ := Lib.hid (cnV_store hcn)
      have hl16 := storeB_len hst
      have HCS := Lib.hid fun j => codI_take (L := L) (R := R) (ll := ll) (j := j)
      have HCL := Lib.hid (codI_length L R ll)
      obtain ⟨V, eV⟩ : ∃ V, cnV L R ll m k = V := ⟨_, rfl⟩
      rw [eV] at hg hgc hz' HEQ ⊢
      have HE := Lib.hid (owns_empty w4 w4.heap.size 34 3 (Nat.le_refl _))
      have hgl := hgc.1
      have hgl2 := hgc.2
      clear hz hcn hst eV
      have hsm := Lib.hid (And.intro hs (And.intro hi (And.intro hm hg)))
      have HK := Lib.hid (And.intro k0 k1)
      have hW14 : W1.heap.size ≤ w4.heap.size := by have h2 := HS_w2.out; have h3 := HS_w3.out; have h4 := HS_w4.out; omega
      clear hs hi hm hg
      go_wp2_with fail
      clear k0 k1
      go_loopw [8, 9] (fun v i wr => ∃ (j : Nat) (vs : List Value), j ≤ ll.length ∧ i = .int .i64 (j : Int) ∧ Hid (wr.ownsRow w4.heap.size 34 3 v j vs ∧ RwsI wr w4.heap.size wr.heap.size vs ((codI L R ll).take j)) ∧ Hid (Below w4.heap.size w4 wr)) (fun _ i _ => ll.length - (intOf i).toNat)
      case atStart => exact ⟨0, [], Nat.zero_le _, rfl, Lib.hid ⟨HE.out, rwsI_nil _ _ _⟩, Lib.hid (below_alloc _ _)⟩
      case round =>
        obtain ⟨j, vs, hj, rfl, HO, HX⟩ := hrel
        have hsx := HX.out.size
        by_cases hlt : j < ll.length
        · obtain ⟨bb, off, rfl, _, _, aj, cj, c0, c1, c2, hx, hcj, hk1, hk2⟩ := (hsm.out.2.1.below HX.out).at_ hlt
          have VX := Lib.hid (storeB_vec HST.out hlt)
          have HSC := Lib.hid (HCS.out j hlt)
          obtain ⟨x, ex⟩ : ∃ x, ll.getD j It.no = x := ⟨_, rfl⟩
          rw [ex] at c0 c1 c2 hx hcj hk1 hk2 VX HSC
          clear ex
          have hx4 : x.pos.length = 4 := by have := vecB_len VX.out; omega
          have b0 := cell_later HX.out HK.out.1
          have b1 := cell_later HX.out HK.out.2
          have ED := Lib.hid (encI_bd HV.out x.pos).2.2
          have EN := Lib.hid fun w' (bl : Below wr.heap.size wr w') => implEncodeVector w' _ _ _ _ _ _ _ cap cap' cj L R x.pos (hsm.out.1.below (HX.out.trans (bl.mono hsx))) (hx.below bl) hcj
          rw [encV_yes HV.out VX.out] at EN
          have DE := Lib.hid fun w' (bl : Below wr.heap.size wr w') => implDecodeVector_yes w' _ _ _ _ cap cap' L R (encI L R x.pos) (hsm.out.1.below (HX.out.trans (bl.mono hsx))) HV.out ED.out
          have DV := Lib.hid (decL_vec HV.out ED.out)
          have HCO : Hid (cod L R x = ⟨x.key, decL L R (encI L R x.pos), 0⟩) := Lib.hid rfl
          obtain ⟨c, ec⟩ : ∃ c, encI L R x.pos = c := ⟨_, rfl⟩
          rw [ec] at EN DE DV ED HCO
          have D4 : Hid ((decL L R c).length = 4) := Lib.hid (by have := vecB_len DV.out; omega)
          obtain ⟨dl, edl⟩ : ∃ dl, decL L R c = dl := ⟨_, rfl⟩
          rw [edl] at DE DV D4 HCO
          rw [hx4] at EN c1
          have hji : (j : Int) < ll.length := by omega
          have HKI : Hid (i64B x.key) := Lib.hid hk1
          have HNE := Lib.hid (fun z e => HO.out.1.lt z e)
          have HLB : Hid (bb < w4.heap.size) := Lib.hid (by
            obtain ⟨bb', off', he, _, _, aj', cj', e0, _⟩ := hsm.out.2.1.at_ hlt
            simp only [Option.some.injEq, Addr.mk.injEq] at he
            obtain ⟨rfl, _, _⟩ := he
            exact World.block_lt_of_cell? w4 _ e0)
          have KD := Lib.hid (show ∀ w', Below wr.heap.size wr w' → w'.cell? ⟨w1.heap.size, 0, none⟩ = some (.slice a L.length cap) ∧ w'.cell? ⟨w1.heap.size, 1, none⟩ = some (.slice b R.length cap') ∧ w'.cell? ⟨bb, off + j * 3, none⟩ = some (.int .i64 x.key) ∧ w'.cell? ⟨bb, off + j * 3 + 1, none⟩ = some (.slice aj 4 cj) from fun w' bl => ⟨cell_later bl b0, cell_later bl b1, cell_later bl c0, cell_later bl c1⟩)
          have HDR : Hid (Below wr.heap.size wr wr.drew) := Lib.hid (Below.refl _ _).drew
          clear hcj hk1 hk2 hx ec edl hx4 b0 b1 c2
          go_wp2_with fail
          clear c0 c1
          go_region_held3 (fun w' => w'.cell? ⟨w1.heap.size, 0, none⟩ = some (.slice a L.length cap) ∧ w'.cell? ⟨w1.heap.size, 1, none⟩ = some (.slice b R.length cap') ∧ w'.cell? ⟨bb, off + j * 3, none⟩ = some (.int .i64 x.key) ∧ w'.cell? ⟨bb, off + j * 3 + 1, none⟩ = some (.slice aj 4 cj))
            (first | (with_reducible exact KD.out _ HX3.out) | (with_reducible exact KD.out _ HX4.out) | (with_reducible exact KD.out _ HX5.out) | (with_reducible exact HS7.out) | (with_reducible exact KD.out _ HDR.out) | go_keep)
            (first
              | (go_at_call 12; refine (EN.out _ HDR.out).mono ?_; rintro e w5 ⟨rfl, hb3⟩; have HX3 : Hid (Below wr.heap.size wr w5) := Lib.hid (HDR.out.trans hb3); have hs3 := HX3.out.size; clear hb3)
              | (go_at_call 11; refine (DE.out w5 HX3.out).mono ?_; rintro e w6 ⟨gg, gcap, rfl, g1, g2, hown, hb4⟩; have HX4 : Hid (Below wr.heap.size wr w6) := Lib.hid (HX3.out.trans (hb4.mono hs3)); have hs4 := HX4.out.size; have HDI := Lib.hid (owns_mark hown (fun z hz => by have := coordsB_ok (vecB_coords DV.out) z hz; omega) (by have := D4.out; omega)); have HO5 := Lib.hid (owns_upd HO.out.1 (Upd.of_below (lo := 0) (hi := 0) HX4.out) (by omega)); have HX5 : Hid (Below wr.heap.size wr (w6.alloc (.cells #[.int .i64 x.key, .slice (some ⟨gg, 0, none⟩) dl.length gcap, .int .i64 0] 34))) := Lib.hid (HX4.out.alloc hs4 _); clear hown hb4)
              | (refine step_append_at rfl (.tmp 52) (.tmp 68) 26 rfl w4.heap.size 34 Try.underlying26 infoItem rfl (by omega) (by omega) _ j vs rfl (HO5.out.alloc _) ⟨w6.heap.size, 0, none⟩ 1 1 [.int .i64 x.key, .slice (some ⟨gg, 0, none⟩) dl.length gcap, .int .i64 0] rfl rfl (news3_new w6 _ _ _ _) (itCells_one ⟨x.key, dl, 0⟩ _ _) (by omega) (by simp; omega) ?_; intro v7 w7 hown7 hg7 hv7; have HS7 := Lib.hid (show w7.cell? ⟨w1.heap.size, 0, none⟩ = some (.slice a L.length cap) ∧ w7.cell? ⟨w1.heap.size, 1, none⟩ = some (.slice b R.length cap') ∧ w7.cell? ⟨bb, off + j * 3, none⟩ = some (.int .i64 x.key) ∧ w7.cell? ⟨bb, off + j * 3 + 1, none⟩ = some (.slice aj 4 cj) from ⟨hg7.cell (KD.out _ HX5.out).1 (fun e => by have h9 : w4.heap.size ≤ w1.heap.size := (HNE.out _ e.symm).1; omega), hg7.cell (KD.out _ HX5.out).2.1 (fun e => by have h9 : w4.heap.size ≤ w1.heap.size := (HNE.out _ e.symm).1; omega), hg7.cell (KD.out _ HX5.out).2.2.1 (fun e => by have h9 : w4.heap.size ≤ bb := (HNE.out _ e.symm).1; have := HLB.out; omega), hg7.cell (KD.out _ HX5.out).2.2.2 (fun e => by have h9 : w4.heap.size ≤ bb := (HNE.out _ e.symm).1; have := HLB.out; omega)⟩); have HO7 := Lib.hid hown7; have HG7 := Lib.hid hg7; clear hown7 hg7 hv7))
          have HV0 : Hid (VecV w6 w4.heap.size w6.heap.size (cod L R x) (some ⟨gg, 0, none⟩) gcap) := Lib.hid (by
            rw [HCO.out]
            exact ⟨HDI.out.2.1.wide (by omega) (Nat.le_refl _), HDI.out.2.2, ⟨g1, g2⟩, HKI.out, by show i64B 0; unfold i64B; omega⟩)
          have HBA := Lib.hid (below_alloc w6 (.cells #[.int .i64 x.key, .slice (some ⟨gg, 0, none⟩) dl.length gcap, .int .i64 0] 34))
          have hsA : (w6.alloc (.cells #[.int .i64 x.key, .slice (some ⟨gg, 0, none⟩) dl.length gcap, .int .i64 0] 34)).heap.size = w6.heap.size + 1 := by simp
          have R6 : Hid (RwsI (w6.alloc (.cells #[.int .i64 x.key, .slice (some ⟨gg, 0, none⟩) dl.length gcap, .int .i64 0] 34)) w4.heap.size (w6.heap.size + 1) (vs ++ itCells (cod L R x) (some ⟨gg, 0, none⟩) gcap) ((codI L R ll).take (j + 1))) := Lib.hid (by
            rw [HSC.out]
            exact ((HO.out.2.upd (Upd.of_below (lo := 0) (hi := 0) (HX4.out.trans (HBA.out.mono hs4))) (by omega)).wide (Nat.le_refl _) (by omega)).snoc ((HV0.out.upd (Upd.of_below (lo := 0) (hi := 0) HBA.out) (by omega)).wide (Nat.le_refl _) (by omega)))
          have hs7 := HG7.out.size
          have R7 : Hid (RwsI w7 w4.heap.size w7.heap.size (vs ++ itCells (cod L R x) (some ⟨gg, 0, none⟩) gcap) ((codI L R ll).take (j + 1))) := Lib.hid ((R6.out.grown (HO5.out.alloc _) (by decide) HG7.out).wide (Nat.le_refl _) (by omega))
          have HX7 : Hid (Below w4.heap.size w4 w7) := Lib.hid ((HX.out.trans ((HX4.out.trans (HBA.out.mono hs4)).mono hsx)).grown HG7.out (by omega) (owns_block HO5.out))
          have HO8 : Hid (w7.ownsRow w4.heap.size 34 3 v7 (j + 1) (vs ++ itCells (cod L R x) (some ⟨gg, 0, none⟩) gcap)) := Lib.hid (by
            rw [HCO.out]
            exact HO7.out)
          clear HO7
          go_wp2_with fail
          go_roundw
          case rel => exact ⟨j + 1, _, by omega, by go_num, Lib.hid ⟨HO8.out, R7.out⟩, HX7⟩
          case measure => simp [intOf]; omega
        · have hje : j = ll.length := by omega
          subst hje
          have htk : (codI L R ll).take ll.length = codI L R ll := by rw [← HCL.out, List.take_length]
          have HO2 := HO.out
          rw [htk] at HO2
          have hnl : (codI L R ll).length = ll.length := HCL.out
          obtain ⟨a6, c6, hv6, hi6, hc6⟩ := items_of_owns (ll := codI L R ll) ⟨vs, by rw [hnl]; exact HO2.1, HO2.2⟩ (by omega) (Nat.le_refl _)
          rw [hnl] at hv6
          subst hv6
          have N6 := Lib.hid (implNearest_new wr _ _ _ _ a6 p c6 capp 3 k (codI L R ll) m hi6 (hsm.out.2.2.1.below HX.out))
          rw [HEQ.out, hnl] at N6
          have HG6 := Lib.hid (hsm.out.2.2.2.below HX.out)
          clear hi6 hc6 htk HO2 HO hnl
          go_wp2_with fail
          refine N6.out.mono ?_
          rintro e w5 ⟨a5, c5, rfl, ⟨h5, -⟩, h6, h7⟩
          have EQ := Lib.hid (equalHits_same w5 _ _ _ _ _ _ c5 gc _ h5 (HG6.out.below h7))
          have HB5 : Hid (Below w.heap.size w w5) := Lib.hid ((HB.out.trans (HX.out.mono HB.out.size)).trans (h7.mono (HB.out.trans (HX.out.mono HB.out.size)).size))
          clear h5 h6 h7
          go_wp2_with fail
          refine EQ.out.mono ?_
          rintro e w6 ⟨rfl, hd⟩
          have HB6 : Hid (Below w.heap.size w w6) := Lib.hid (HB5.out.trans hd.below)
          clear hd
          go_wp2_with fail
          go_ret
          exact ⟨rfl, HB6.out⟩
theorem own : ownKnob Try.prog.godebug = none := by kernel_rfl
theorem laidOut : laidOutB Try.prog = true := by kernel_rfl

set_option maxRecDepth 100000 in
theorem lifted (os : Os) (started : os.Started) (H : Type) (enc : TypeId × Value → H) :
    ReturnsInHanded {} Try.checked os 3 .any (Rows.fnCodeNearestStoreSpec.pre6 enc Try.prog Try.f3 Rows.fnCodeNearestStoreRow.domain false) (Rows.fnCodeNearestStoreSpec.post enc Try.prog Try.f3 false true false false) := by
  refine returnsInHanded_of_change (C := Try.checked) own started (by kernel_rfl) Try.func3
    (ChangeSpec.witness6 (enc := enc) (C := Try.checked) false ⟨#[], #[.slice none 0 0], []⟩ 8 (by kernel_rfl) (by kernel_rfl) (by kernel_rfl) (by kernel_rfl)) ?_
  intro W base args ds gs before hval0 hW hcnd _
  have hval : ∀ (j : Nat) t v, Try.f3.params[j]? = some t → args[j]? = some v → Value.okWide Try.prog W .any base t v := hval0
  have hW' := hW
  obtain ⟨p, q, hA0, hV, rfl, hfz, hnd⟩ := hW
  have hA : DataW.TrodAll enc Try.prog W 0 (fun _ => true) true Try.f3.params.toList args.toList ds p := hA0
  rw [Try.params3] at hA hval
  obtain ⟨v0, vs0, d0, ds0, p0, q0, hargs, rfl, rfl, h0, r0⟩ := trodAll_cons hA
  obtain ⟨rfl, rfl, rfl⟩ := trodAll_nil r0
  obtain rfl : args = #[v0] := by cases args; simp_all
  obtain ⟨rfl, rfl⟩ := trodVars_none hV
  obtain ⟨a0, len0, cap0, rfl⟩ := okWide_slice Try.underlying22 (hval 0 22 v0 rfl rfl)
  have k0 := h0
  have lt0 : ∀ x ∈ p0, x.block < W.heap.size := by obtain ⟨m, hm⟩ := k0; exact DataW.trod_lt m _ _ _ hm
  obtain ⟨z0, w0⟩ : ∃ zs, IsRow .u8 W a0 len0 cap0 zs := by
    obtain ⟨fuel, hf⟩ := h0
    rcases open_ints Try.underlying22 Try.underlying5 (by kernel_rfl) hf with ⟨hcs, _⟩ | ⟨x, l, c, zs, hcs, _, hl, hm, hz, _, hcell, hwz⟩
    · simp [Value.cells] at hcs
      obtain ⟨rfl, rfl, rfl⟩ := hcs
      exact ⟨[], .inl ⟨rfl, rfl, rfl, rfl⟩⟩
    · simp [Value.cells] at hcs
      obtain ⟨rfl, rfl, rfl⟩ := hcs
      exact ⟨zs, .inr ⟨_, rfl, hl, hm, by simpa using hz, hcell, hwz⟩⟩
  clear hA0 hval0
  refine (walk a0 len0 cap0 z0 W w0).mono fun e W' ⟨he, bel⟩ => ?_
  subst he
  exact ⟨_, rfl, _, _, _, [], _, [], hW', trodAll_mk1 (shut_bool Try.underlying4 _), (trodAll_cons_mk (Below.trod laidOut (by kernel_rfl) (of_decide_eq_true (by kernel_rfl)) k0 bel lt0) trodAll_mk0), rfl, bel.frame _, fun h => by cases h⟩

theorem over : Rows.fnCodeNearestStoreRow.holds Try.pinned (OpenSpec.ofChange Rows.fnCodeNearestStoreSpec) :=
  OpenClaim.holds_of_wide 3 Try.f3 rfl rfl rfl rfl rfl rfl rfl ⟨rfl, rfl, rfl, rfl, rfl⟩ rfl rfl rfl rfl rfl (by kernel_rfl) Try.func3 (by kernel_rfl)
    (of_decide_eq_true (by kernel_rfl)) (by unfold Func.isWrapper; first | (rw [if_pos (by decide +kernel)]; kernel_rfl) | (rw [if_neg (by decide +kernel)]; exact ⟨rfl, rfl⟩))
    (fun os started H enc _ => lifted os started H enc)

/-- THE STATEMENT -/
theorem proved : Rows.FnCodeNearestStoreSaid :=
  over
#print axioms proved
end Go.Proofs.Ytllahaebfhaobaa.fnCodeNearestStore
