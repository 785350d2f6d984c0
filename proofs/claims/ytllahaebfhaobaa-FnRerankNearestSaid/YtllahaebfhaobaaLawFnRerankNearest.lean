/-
  For all codes: of the book, the store, the vector and the numbers that the code draws: RerankNearest is what the reference says; its hits have the items distances, of all it finds what Nearest finds, and it has as many as are asked for and there are. No condition.
-/
import Derived.Test.YtllahaebfhaobaaRows
import Derived.Test.YtllahaebfhaobaaRerankSpec
import Derived.Test.YtllahaebfhaobaaCodeLaws
import Derived.Test.YtllahaebfhaobaaDrawCode
import Derived.Test.YtllahaebfhaobaaHitMark
import Derived.Test.YtllahaebfhaobaaItemOfWalk
import Derived.Test.YtllahaebfhaobaaOneTops
import Derived.ProofKit
import Derived.OpenShut
import Derived.ShutString
import Derived.ChangeOld
namespace Go.Proofs.Ytllahaebfhaobaa.fnRerankNearest
open Go.ChangeShapes Go.WideShapes Go.ChangeAt Go.RowKit
set_option linter.unusedVariables false

set_option maxRecDepth 4000 in
set_option maxHeartbeats 1000000 in
theorem walk (a0 : Option Addr) (len0 cap0 : Nat) (z0 : List Int) (w : World) (w0 : IsRow .u8 w a0 len0 cap0 z0) :
    Calls Try.prog 5 #[.slice a0 len0 cap0] w fun e w' => e = .returned (.bool true) ∧ Below w.heap.size w w' := by
  by_cases hl : 1048576 < len0
  · clear w0
    go_enter Try.func5, Try.ntmps5
    go_wp2
    go_ret
    exact ⟨rfl, Below.refl _ _⟩
  · have H := Lib.hid (bytes_of_row w0 (by omega))
    clear w0
    go_enter Try.func5, Try.ntmps5
    go_wp2_with fail
    refine (DrawRerankNearest_any _ _ _ _ _ H.out).mono ?_
    rintro e w1 ⟨a, b, q, p, cap, cap', capq, capp, L, R, ll, m, n, k, rfl, ⟨hS0, -, -⟩, ⟨hI0, hcapq⟩, ⟨hM0, hcapp⟩, hq, hk, hb⟩
    have hba := below_alloc w1 (.cells #[.slice a L.length cap, .slice b R.length cap'] 25)
    have K := cells2_new w1 (.slice a L.length cap) (.slice b R.length cap') 25
    obtain ⟨W1, hW1⟩ : ∃ W1, w1.alloc (.cells #[.slice a L.length cap, .slice b R.length cap'] 25) = W1 := ⟨_, rfl⟩
    have hszW : w1.heap.size < W1.heap.size := by rw [← hW1]; simp
    rw [hW1] at hba K
    have HB : Hid (Below w.heap.size w W1) := Lib.hid (hb.trans (hba.mono hb.size))
    have hs := hS0.below hba
    have hi := hI0.below hba
    have hm := hM0.below hba
    obtain ⟨k0, k1⟩ := K
    have hc1 := hcapq.1
    have hc2 := hcapq.2
    have hc3 := hcapp.1
    have hc4 := hcapp.2
    have hq1 := hq.1
    clear hb hcapq hcapp hq hba hS0 hI0 hM0

    go_wp2_with fail
    refine (implRK _ _ _ _ _ _ _ _ _ _ _ _ _ _ _ n k L R ll m hs hi hm).mono ?_
    rintro e w2 ⟨g, gc, rfl, ⟨hg, -⟩, hgc, hmk⟩
    replace hs := hs.below hmk
    replace hi := hi.below hmk
    replace hm := hm.below hmk
    replace k0 := cell_later hmk k0
    replace k1 := cell_later hmk k1
    replace HB := Lib.hid (HB.out.trans (hmk.mono HB.out.size))
    have HS_w2 := Lib.hid hmk.size
    clear hmk
    clear hW1
    go_wp2_with fail
    refine (specRK _ _ _ _ _ _ _ _ _ _ _ _ _ _ _ n k L R ll m hs hi hm).mono ?_
    rintro e w3 ⟨g3, gc3, rfl, ⟨hg3, -⟩, hgc3, hmk⟩
    replace hs := hs.below hmk
    replace hi := hi.below hmk
    replace hm := hm.below hmk
    replace hg := hg.below hmk
    replace k0 := cell_later hmk k0
    replace k1 := cell_later hmk k1
    replace HB := Lib.hid (HB.out.trans (hmk.mono HB.out.size))
    have HS_w3 := Lib.hid hmk.size
    clear hmk
    go_wp2_with fail
    refine (equalHits_same _ _ _ _ _ _ _ gc gc3 _ hg hg3).mono ?_
    rintro e w4 ⟨rfl, hdrw⟩
    replace hs := hs.drawn hdrw
    replace hi := hi.drawn hdrw
    replace hm := hm.drawn hdrw
    replace hg := hg.drawn hdrw
    replace k0 := hdrw.cell k0
    replace k1 := hdrw.cell k1
    replace HB := Lib.hid (HB.out.trans hdrw.below)
    have HS_w4 := Lib.hid (congrArg Array.size hdrw.heap)
    clear hdrw
    clear hg3 hgc3
    by_cases hz : (rkV L R ll m n k).length = 0
    · have hz' : (((rkV L R ll m n k).length : Int) == 0) = true := by rw [beq_iff_eq]; omega
      clear hz
      go_wp2_with fail
      refine (specRK _ _ _ _ _ _ _ _ _ _ _ _ _ _ _ n k L R ll m hs hi hm).mono ?_
      rintro e w5 ⟨g5, gc5, rfl, ⟨hg5, -⟩, hgc5, hmk⟩
      replace hs := hs.below hmk
      replace hi := hi.below hmk
      replace hm := hm.below hmk
      replace hg := hg.below hmk
      replace HB := Lib.hid (HB.out.trans (hmk.mono HB.out.size))
      clear hmk
      go_wp2_with fail
      refine (equalHits_same _ _ _ _ _ _ _ gc gc5 _ hg hg5).mono ?_
      rintro e w6 ⟨rfl, hdrw⟩
      replace HB := Lib.hid (HB.out.trans hdrw.below)
      have HS_w6 := Lib.hid (congrArg Array.size hdrw.heap)
      clear hdrw
      go_wp2_with fail
      go_ret
      exact ⟨rfl, HB.out⟩
    · have hz' : (((rkV L R ll m n k).length : Int) == 0) = false := by rw [beq_eq_false_iff_ne]; omega
      have hrk := rkV_ne hz
      have HL := Lib.hid (rkV_law hrk)
      have hst := qryB_store (findB_qry (cnB_find (rkB_cn hrk)))
      have HST := Lib.hid hst
      have HMV := Lib.hid (qryB_vec (findB_qry (cnB_find (rkB_cn hrk))))
      have hl16 := storeB_len hst
      have hvl := rkV_len L R ll m n k
      obtain ⟨V, eV⟩ : ∃ V, rkV L R ll m n k = V := ⟨_, rfl⟩
      rw [eV] at hg hgc hz' HL hvl ⊢
      clear hz hrk hst eV
      have hsm := Lib.hid (And.intro hs (And.intro hi (And.intro hm hg)))
      have HK := Lib.hid (And.intro k0 k1)
      clear hs hi hm hg
      go_wp2_with fail
      clear k0 k1
      go_loopw [9] (fun i wr => ∃ j : Nat, j ≤ V.length ∧ i = .int .i64 (j : Int) ∧ Hid (Below w4.heap.size w4 wr)) (fun i _ => V.length - (intOf i).toNat)
      case atStart => exact ⟨0, Nat.zero_le _, rfl, Lib.hid (Below.refl _ _)⟩
      case round =>
        obtain ⟨j, hj, rfl, HX⟩ := hrel
        have hsx := HX.out.size
        by_cases hlt : j < V.length
        · obtain ⟨bb, off, rfl, _, _, c0, c1⟩ := (hsm.out.2.2.2.below HX.out).at_ hlt
          obtain ⟨z, hz, ez⟩ := HL.out.1 j hlt
          rw [ez] at c0 c1
          have VZ := Lib.hid (storeB_vec HST.out hz)
          have IO := Lib.hid fun w' (bl : Below wr.heap.size wr w') => itemOf_any w' _ _ q capq z ll (ll.getD z It.no) (hsm.out.2.1.below (HX.out.trans (bl.mono hsx))) HST.out hz rfl
          obtain ⟨x, ex⟩ : ∃ x, ll.getD z It.no = x := ⟨_, rfl⟩
          rw [ex] at c0 c1 VZ IO
          have hx4 : x.pos.length = 4 := by have := vecB_len VZ.out; omega
          have HX4 := Lib.hid hx4
          obtain ⟨d, ed⟩ : ∃ d, dst 3 x.pos m 4 = d := ⟨_, rfl⟩
          have HDD := Lib.hid ed
          have c1' : wr.cell? ⟨bb, off + j * 2 + 1, none⟩ = some (.int .i64 d) := by rw [c1, ed]
          have hdd : (d != d) = false := by simp
          have hji : (j : Int) < V.length := by omega
          have KD := Lib.hid (show ∀ w', Below wr.heap.size wr w' → w'.cell? ⟨bb, off + j * 2, none⟩ = some (.int .i64 x.key) ∧ w'.cell? ⟨bb, off + j * 2 + 1, none⟩ = some (.int .i64 d) from fun w' bl => ⟨cell_later bl c0, cell_later bl c1'⟩)
          have HDR : Hid (Below wr.heap.size wr wr.drew) := Lib.hid (Below.refl _ _).drew
          clear ex ed hx4 ez c1 c0 c1'
          go_wp2_with fail
          go_region_held3 (fun w' => w'.cell? ⟨bb, off + j * 2, none⟩ = some (.int .i64 x.key) ∧ w'.cell? ⟨bb, off + j * 2 + 1, none⟩ = some (.int .i64 d))
            (first | (with_reducible exact KD.out _ HX5.out) | (with_reducible exact KD.out _ HX6.out) | (with_reducible exact KD.out _ HDR.out) | go_keep)
            (first
              | (go_at_call 32; refine (IO.out _ HDR.out).mono ?_; rintro e w5 ⟨ai, ci, rfl, hxp, hmk⟩; have HXP := Lib.hid (hxp.below hmk); have HX5 : Hid (Below wr.heap.size wr w5) := Lib.hid (HDR.out.trans hmk); have hs5 := HX5.out.size; have hft := fun w => run_at w x.key x.tags ai x.pos.length ci; clear hxp hmk)
              | (go_at_call 31; refine (implDistanceOf w5 _ _ _ _ _ _ ci capp x.pos m 3 HXP.out (hsm.out.2.2.1.below (HX.out.trans (HX5.out.mono hsx))) (by omega) VZ.out HMV.out).mono ?_; rw [HX4.out, HDD.out]; rintro e w6 ⟨rfl, hd6⟩; have HX6 : Hid (Below wr.heap.size wr w6) := Lib.hid (HX5.out.trans (Drawn.below hd6)); clear hd6))
          go_wp2_with fail
          go_roundw
          case rel => exact ⟨j + 1, by omega, by go_num, Lib.hid (HX.out.trans (HX6.out.mono hsx))⟩
          case measure => simp [intOf]; omega
        · have hje : j = V.length := by omega
          subst hje
          have k0 := cell_later HX.out HK.out.1
          have k1 := cell_later HX.out HK.out.2
          have R16 := Lib.hid (implRK wr _ _ _ _ _ _ a b q p cap cap' capq capp 16 k L R ll m (hsm.out.1.below HX.out) (hsm.out.2.1.below HX.out) (hsm.out.2.2.1.below HX.out))
          rw [HL.out.2.1] at R16
          have hmin : min (min n k) (ll.length : Int) = (V.length : Int) := HL.out.2.2.symm
          go_wp2_with fail
          refine R16.out.mono ?_
          rintro e w5 ⟨a5, c5, rfl, ⟨h5, -⟩, h6, h7⟩
          have H5 := Lib.hid h5
          have HX5 : Hid (Below w4.heap.size w4 w5) := Lib.hid (HX.out.trans (h7.mono hsx))
          have N5 := Lib.hid (implNearest_new w5 _ _ _ _ q p capq capp 3 k ll m (hsm.out.2.1.below HX5.out) (hsm.out.2.2.1.below HX5.out))
          obtain ⟨Q, eQ⟩ : ∃ Q, nrV 3 m ll k = Q := ⟨_, rfl⟩
          rw [eQ] at N5 H5 ⊢
          clear h5 h6 h7 eQ k0 k1
          go_wp2_with fail
          refine N5.out.mono ?_
          rintro e w6 ⟨a6, c6, rfl, ⟨h6, -⟩, h7, h8⟩
          have EQ := Lib.hid (equalHits_same w6 _ _ _ _ _ _ c5 c6 _ (H5.out.below h8) h6)
          have HB6 : Hid (Below w.heap.size w w6) := Lib.hid (HB.out.trans ((HX5.out.trans (h8.mono HX5.out.size)).mono HB.out.size))
          clear h6 h7 h8
          go_wp2_with fail
          refine EQ.out.mono ?_
          rintro e w7 ⟨rfl, hd⟩
          have HB7 : Hid (Below w.heap.size w w7) := Lib.hid (HB6.out.trans hd.below)
          clear hd
          go_wp2_with fail
          go_ret
          exact ⟨by simp, HB7.out⟩
theorem own : ownKnob Try.prog.godebug = none := by kernel_rfl
theorem laidOut : laidOutB Try.prog = true := by kernel_rfl

set_option maxRecDepth 100000 in
theorem lifted (os : Os) (started : os.Started) (H : Type) (enc : TypeId × Value → H) :
    ReturnsInHanded {} Try.checked os 5 .any (Rows.fnRerankNearestSpec.pre6 enc Try.prog Try.f5 Rows.fnRerankNearestRow.domain false) (Rows.fnRerankNearestSpec.post enc Try.prog Try.f5 false true false false) := by
  refine returnsInHanded_of_change (C := Try.checked) own started (by kernel_rfl) Try.func5
    (ChangeSpec.witness6 (enc := enc) (C := Try.checked) false ⟨#[], #[.slice none 0 0], []⟩ 8 (by kernel_rfl) (by kernel_rfl) (by kernel_rfl) (by kernel_rfl)) ?_
  intro W base args ds gs before hval0 hW hcnd _
  have hval : ∀ (j : Nat) t v, Try.f5.params[j]? = some t → args[j]? = some v → Value.okWide Try.prog W .any base t v := hval0
  have hW' := hW
  obtain ⟨p, q, hA0, hV, rfl, hfz, hnd⟩ := hW
  have hA : DataW.TrodAll enc Try.prog W 0 (fun _ => true) true Try.f5.params.toList args.toList ds p := hA0
  rw [Try.params5] at hA hval
  obtain ⟨v0, vs0, d0, ds0, p0, q0, hargs, rfl, rfl, h0, r0⟩ := trodAll_cons hA
  obtain ⟨rfl, rfl, rfl⟩ := trodAll_nil r0
  obtain rfl : args = #[v0] := by cases args; simp_all
  obtain ⟨rfl, rfl⟩ := trodVars_none hV
  obtain ⟨a0, len0, cap0, rfl⟩ := okWide_slice Try.underlying22 (hval 0 22 v0 rfl rfl)
  have k0 := h0
  have lt0 : ∀ x ∈ p0, x.block < W.heap.size := by obtain ⟨m, hm⟩ := k0; exact DataW.trod_lt m _ _ _ hm
  obtain ⟨z0, w0⟩ : ∃ zs, IsRow .u8 W a0 len0 cap0 zs := by
    obtain ⟨fuel, hf⟩ := h0
    rcases open_ints Try.underlying22 Try.underlying5 (by kernel_rfl) hf with ⟨hcs, _⟩ | ⟨x, l, c, zs, hcs, _, hl, hm, hz, _, hcell, hwz⟩
    · simp [Value.cells] at hcs
      obtain ⟨rfl, rfl, rfl⟩ := hcs
      exact ⟨[], .inl ⟨rfl, rfl, rfl, rfl⟩⟩
    · simp [Value.cells] at hcs
      obtain ⟨rfl, rfl, rfl⟩ := hcs
      exact ⟨zs, .inr ⟨_, rfl, hl, hm, by simpa using hz, hcell, hwz⟩⟩
  clear hA0 hval0
  refine (walk a0 len0 cap0 z0 W w0).mono fun e W' ⟨he, bel⟩ => ?_
  subst he
  exact ⟨_, rfl, _, _, _, [], _, [], hW', trodAll_mk1 (shut_bool Try.underlying4 _), (trodAll_cons_mk (Below.trod laidOut (by kernel_rfl) (of_decide_eq_true (by kernel_rfl)) k0 bel lt0) trodAll_mk0), rfl, bel.frame _, fun h => by cases h⟩

theorem over : Rows.fnRerankNearestRow.holds Try.pinned (OpenSpec.ofChange Rows.fnRerankNearestSpec) :=
  OpenClaim.holds_of_wide 5 Try.f5 rfl rfl rfl rfl rfl rfl rfl ⟨rfl, rfl, rfl, rfl, rfl⟩ rfl rfl rfl rfl rfl (by kernel_rfl) Try.func5 (by kernel_rfl)
    (of_decide_eq_true (by kernel_rfl)) (by unfold Func.isWrapper; first | (rw [if_pos (by decide +kernel)]; kernel_rfl) | (rw [if_neg (by decide +kernel)]; exact ⟨rfl, rfl⟩))
    (fun os started H enc _ => lifted os started H enc)

/-- THE STATEMENT -/
theorem proved : Rows.FnRerankNearestSaid :=
  over
#print axioms proved
end Go.Proofs.Ytllahaebfhaobaa.fnRerankNearest
