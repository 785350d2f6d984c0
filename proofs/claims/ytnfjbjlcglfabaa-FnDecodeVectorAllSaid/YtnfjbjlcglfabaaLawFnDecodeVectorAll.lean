/-
  For all codes: of the book and the code that the code draws: DecodeVector of two codes is equal exactly if both halves are. No condition.
-/
import Derived.Test.YtnfjbjlcglfabaaRows
import Derived.Test.YtnfjbjlcglfabaaDisTops
import Derived.Test.YtnfjbjlcglfabaaDrawBookTops
import Derived.Test.YtnfjbjlcglfabaaEqWalks
import Derived.ProofKit
import Derived.OpenShut
import Derived.ShutString
import Derived.ChangeOld
namespace Go.Proofs.Ytnfjbjlcglfabaa.fnDecodeVectorAll
open Go.ChangeShapes Go.WideShapes Go.ChangeAt Go.RowKit
set_option linter.unusedVariables false

set_option maxHeartbeats 1000000 in
theorem walk (a0 : Option Addr) (len0 cap0 : Nat) (z0 : List Int) (w : World) (w0 : IsRow .u8 w a0 len0 cap0 z0) :
    Calls Try.prog 5 #[.slice a0 len0 cap0] w fun e w' => e = .returned (.bool true) ∧ Below w.heap.size w w' := by
  by_cases hl : 1048576 < len0
  · clear w0
    go_enter Try.func5, Try.ntmps5
    go_wp2
    go_ret
    exact ⟨rfl, Below.refl _ _⟩
  · have H := Lib.hid (bytes_of_row w0 (by omega))
    clear w0
    go_enter Try.func5, Try.ntmps5
    go_wp2_with fail
    refine (DrawDecodeVector_any _ _ _ _ _ H.out).mono ?_
    rintro e w1 ⟨a1, b1, cap1, cap1', L, R, c, rfl, ⟨hl, -, -⟩, hcc, hb⟩
    have HB : Hid (Below w.heap.size w (w1.alloc (.cells #[.slice a1 L.length cap1, .slice b1 R.length cap1'] 25))) := Lib.hid (hb.alloc hb.size _)
    have hs : Sides (w1.alloc (.cells #[.slice a1 L.length cap1, .slice b1 R.length cap1'] 25)) 0 w1.heap.size a1 b1 L R := hl.below ((Below.refl _ _).alloc (Nat.le_refl _) _)
    have k0 := cell_new w1 #[.slice a1 L.length cap1, .slice b1 R.length cap1'] 25 0
    have k1 := cell_new w1 #[.slice a1 L.length cap1, .slice b1 R.length cap1'] 25 1
    have K0 := Lib.hid k0
    have K1 := Lib.hid k1
    clear hb hl k0 k1
    by_cases hv : bookB L R = true ∧ 0 ≤ c ∧ c < 16
    · obtain ⟨hv, c0, c16⟩ := hv
      have hN : ∃ n : Nat, c = (n : Int) ∧ n < 16 := ⟨c.toNat, by omega, by omega⟩
      obtain ⟨n, rfl, hn⟩ := hN
      have HV := Lib.hid hv
      have e4 := vecB_len (decL_vec hv hn)
      have E4 : Hid ((decL L R n).length = 4) := Lib.hid (by omega)
      clear c0 c16 hcc hv e4
      have R1 := Lib.hid (implDecodeVector_read (w1.alloc (.cells #[.slice a1 L.length cap1, .slice b1 R.length cap1'] 25)) _ _ a1 b1 cap1 cap1' L R n hs HV.out hn)
      go_wp2_with fail
      refine R1.out.mono ?_
      rintro e w2 ⟨g, gcap, rfl, hg, hgc, hmk⟩
      have hgc1 := hgc.1
      have hgc2 := hgc.2
      rw [E4.out] at hgc1 ⊢
      replace hs := hs.below hmk
      have k0 := cell_later hmk K0.out
      have k1 := cell_later hmk K1.out
      have K0 := Lib.hid k0
      have K1 := Lib.hid k1
      replace HB := Lib.hid (HB.out.trans (hmk.mono HB.out.size))
      clear hmk hgc R1
      go_wp2_with fail
      refine (specDecodeVector_read _ _ _ _ _ _ _ L R n hs HV.out hn).mono ?_
      rintro e w3 ⟨g3, gcap3, rfl, hg3, hgc3, hmk⟩
      replace hs := hs.below hmk
      replace hg := hg.below hmk
      replace k0 := cell_later hmk k0
      replace k1 := cell_later hmk k1
      replace HB := Lib.hid (HB.out.trans (hmk.mono HB.out.size))
      clear hmk
      clear hgc3
      have D1 := Lib.hid (equalInts_any w3 _ _ _ _ _ _ gcap gcap3 _ _ hg hg3)
      rw [eqL_self, E4.out] at D1
      rw [E4.out]
      clear hg3
      go_wp2_with fail
      refine (D1.out).mono ?_
      rintro e w4 ⟨rfl, hdrw⟩
      replace hs := hs.drawn hdrw
      replace hg := hg.drawn hdrw
      replace k0 := hdrw.cell k0
      replace k1 := hdrw.cell k1
      replace HB := Lib.hid (HB.out.trans hdrw.below)
      have HS_w4 := Lib.hid (congrArg Array.size hdrw.heap)
      clear hdrw
      clear D1
      go_wp2_with fail
      have hqN : ∃ q : Nat, q = (n + 5) % 16 := ⟨_, rfl⟩
      obtain ⟨q, hqe⟩ := hqN
      have hq : q < 16 := by omega
      have w5e : IntKind.i64.wrap ((n : Int) + 5) = (n : Int) + 5 := wrap_in (by omega)
      have HQE := Lib.hid hqe
      have hkL : n / 4 < L.length := by have := (bookB_len HV.out).1; omega
      have hkR : n % 4 < R.length := by have := (bookB_len HV.out).2; omega
      have hqL : q / 4 < L.length := by have := (bookB_len HV.out).1; omega
      have hqR : q % 4 < R.length := by have := (bookB_len HV.out).2; omega
      clear hqe
      go_wp2_with fail
      rw [show ((n : Int) + 5) % 16 = (q : Int) by have := HQE.out; omega]
      refine (implDecodeVector_read _ _ _ _ _ _ _ L R q hs HV.out hq).mono ?_
      rintro e w5 ⟨g5, gcap5, rfl, hg5, hgc5, hmk⟩
      replace hs := hs.below hmk
      replace hg := hg.below hmk
      replace k0 := cell_later hmk k0
      replace k1 := cell_later hmk k1
      replace HB := Lib.hid (HB.out.trans (hmk.mono HB.out.size))
      clear hmk
      have E5 := vecB_len (decL_vec HV.out hq)
      rw [show (decL L R q).length = 4 by omega]
      obtain ⟨pa, oa, aj, cj, rfl, _, _, hca, hx⟩ := hs.1.at_ hkL
      obtain ⟨pb, ob, aj', cj', rfl, _, _, hcb, hy⟩ := hs.2.at_ hkR
      obtain ⟨pa', oa', ak, ck, he1, _, _, hca', hx'⟩ := hs.1.at_ hqL
      simp only [Option.some.injEq, Addr.mk.injEq] at he1
      obtain ⟨rfl, rfl, _⟩ := he1
      obtain ⟨pb', ob', ak', ck', he2, _, _, hcb', hy'⟩ := hs.2.at_ hqR
      simp only [Option.some.injEq, Addr.mk.injEq] at he2
      obtain ⟨rfl, rfl, _⟩ := he2
      have x2 := vecB_len (vecsB_at (bookB_vecs HV.out).1 hkL)
      have y2 := vecB_len (vecsB_at (bookB_vecs HV.out).2 hkR)
      have x2' := vecB_len (vecsB_at (bookB_vecs HV.out).1 hqL)
      have y2' := vecB_len (vecsB_at (bookB_vecs HV.out).2 hqR)
      have HED : Hid (eqL (decL L R q) (decL L R n) = (eqL (L.getD (q / 4) []) (L.getD (n / 4) []) && eqL (R.getD (q % 4) []) (R.getD (n % 4) []))) := Lib.hid (eqL_app (by omega))
      have D1 := Lib.hid fun s : Nat => equalInts_any (w5.drewN s) _ _ _ _ _ _ ck cj _ _ (hx'.drawn ⟨s, rfl⟩) (hx.drawn ⟨s, rfl⟩)
      have D2 := Lib.hid fun s : Nat => equalInts_any (w5.drewN s) _ _ _ _ _ _ ck' cj' _ _ (hy'.drawn ⟨s, rfl⟩) (hy.drawn ⟨s, rfl⟩)
      have D3 := Lib.hid fun w6 (dr : Drawn w5 w6) => equalInts_any w6 _ _ _ _ _ _ gcap5 gcap _ _ (hg5.drawn dr) (hg.drawn dr)
      rw [HED.out, show (decL L R q).length = 4 by omega, E4.out] at D3
      rw [show (L.getD (n / 4) []).length = 2 by omega] at hca D1
      rw [show (R.getD (n % 4) []).length = 2 by omega] at hcb D2
      rw [show (L.getD (q / 4) []).length = 2 by omega] at hca' D1
      rw [show (R.getD (q % 4) []).length = 2 by omega] at hcb' D2
      obtain ⟨b1, eb1⟩ : ∃ b, eqL (L.getD (q / 4) []) (L.getD (n / 4) []) = b := ⟨_, rfl⟩
      obtain ⟨b2, eb2⟩ : ∃ b, eqL (R.getD (q % 4) []) (R.getD (n % 4) []) = b := ⟨_, rfl⟩
      rw [eb1] at D1 D3
      rw [eb2] at D2 D3
      clear eb1 eb2 HED x2 y2 x2' y2' hx hy hx' hy' hg hg5 hs E5 hgc5
      have d0 : 0 ≤ ((n : Int) / 4) := by omega
      have d1 : (n : Int) / 4 < L.length := by omega
      have d2 : ((n : Int) / 4).toNat = n / 4 := by omega
      have dw : IntKind.i64.wrap ((n : Int) / 4) = (n : Int) / 4 := wrap_in (by omega)
      have mt : (n : Int).tmod 4 = (n : Int) % 4 := Int.tmod_eq_emod_of_nonneg (by omega)
      have m0 : 0 ≤ ((n : Int) % 4) := by omega
      have m1 : (n : Int) % 4 < R.length := by omega
      have m2 : ((n : Int) % 4).toNat = n % 4 := by omega
      have f0 : 0 ≤ ((q : Int) / 4) := by omega
      have f1 : (q : Int) / 4 < L.length := by omega
      have f2 : ((q : Int) / 4).toNat = q / 4 := by omega
      have fw : IntKind.i64.wrap ((q : Int) / 4) = (q : Int) / 4 := wrap_in (by omega)
      have ft : (q : Int).tmod 4 = (q : Int) % 4 := Int.tmod_eq_emod_of_nonneg (by omega)
      have g0 : 0 ≤ ((q : Int) % 4) := by omega
      have g1 : (q : Int) % 4 < R.length := by omega
      have g2 : ((q : Int) % 4).toNat = q % 4 := by omega
      cases b1
      all_goals
        go_wp2_with fail
        go_quiet ((go_at_call 23; first | (with_reducible exact quiet_drawn (D1.out _)) | (with_reducible exact quiet_drawn (D2.out _))))
        clear d0 d1 d2 dw mt m0 m1 m2 f0 f1 f2 fw ft g0 g1 g2
        go_wp2_with fail
        refine (D3.out _ ⟨_, rfl⟩).mono ?_
        rintro e w6 ⟨rfl, hd6⟩
        replace HB := Lib.hid (HB.out.trans ((Drawn.below ⟨_, rfl⟩ : Below w.heap.size w5 _).trans hd6.below))
        clear hd6
        go_wp2_with fail
        go_ret
        exact ⟨by simp, HB.out⟩
    · have HN := Lib.hid hv
      clear hv hcc
      go_wp2_with fail
      refine (implDecodeVector_no _ _ _ _ _ _ _ _ _ _ hs HN.out).mono ?_
      rintro e w2 ⟨rfl, hmk⟩
      replace hs := hs.below hmk
      have k0 := cell_later hmk K0.out
      have k1 := cell_later hmk K1.out
      replace HB := Lib.hid (HB.out.trans (hmk.mono HB.out.size))
      clear hmk
      go_wp2_with fail
      refine (specDecodeVector_no _ _ _ _ _ _ _ _ _ _ hs HN.out).mono ?_
      rintro e w3 ⟨rfl, hmk⟩
      replace hs := hs.below hmk
      replace k0 := cell_later hmk k0
      replace k1 := cell_later hmk k1
      replace HB := Lib.hid (HB.out.trans (hmk.mono HB.out.size))
      clear hmk
      go_wp2_with fail
      refine (equalInts_any w3 0 0 0 0 none none 0 0 [] [] (Ints.nil _ _ _ _) (Ints.nil _ _ _ _)).mono ?_
      rintro e w4 ⟨rfl, hdrw⟩
      replace hs := hs.drawn hdrw
      replace k0 := hdrw.cell k0
      replace k1 := hdrw.cell k1
      replace HB := Lib.hid (HB.out.trans hdrw.below)
      have HS_w4 := Lib.hid (congrArg Array.size hdrw.heap)
      clear hdrw
      rw [eqL_self]
      go_wp2_with fail
      refine (specDecodeVector_no _ _ _ _ _ _ _ _ _ _ hs HN.out).mono ?_
      rintro e w5 ⟨rfl, hmk⟩
      replace hs := hs.below hmk
      replace HB := Lib.hid (HB.out.trans (hmk.mono HB.out.size))
      clear hmk
      go_wp2_with fail
      refine (equalInts_any w5 0 0 0 0 none none 0 0 [] [] (Ints.nil _ _ _ _) (Ints.nil _ _ _ _)).mono ?_
      rintro e w6 ⟨rfl, hdrw⟩
      replace HB := Lib.hid (HB.out.trans hdrw.below)
      have HS_w6 := Lib.hid (congrArg Array.size hdrw.heap)
      clear hdrw
      rw [eqL_self]
      go_wp2_with fail
      go_ret
      exact ⟨rfl, HB.out⟩
theorem own : ownKnob Try.prog.godebug = none := by kernel_rfl
theorem laidOut : laidOutB Try.prog = true := by kernel_rfl

set_option maxRecDepth 100000 in
theorem lifted (os : Os) (started : os.Started) (H : Type) (enc : TypeId × Value → H) :
    ReturnsInHanded {} Try.checked os 5 .any (Rows.fnDecodeVectorAllSpec.pre6 enc Try.prog Try.f5 Rows.fnDecodeVectorAllRow.domain false) (Rows.fnDecodeVectorAllSpec.post enc Try.prog Try.f5 false true false false) := by
  refine returnsInHanded_of_change (C := Try.checked) own started (by kernel_rfl) Try.func5
    (ChangeSpec.witness6 (enc := enc) (C := Try.checked) false ⟨#[], #[.slice none 0 0], []⟩ 8 (by kernel_rfl) (by kernel_rfl) (by kernel_rfl) (by kernel_rfl)) ?_
  intro W base args ds gs before hval0 hW hcnd _
  have hval : ∀ (j : Nat) t v, Try.f5.params[j]? = some t → args[j]? = some v → Value.okWide Try.prog W .any base t v := hval0
  have hW' := hW
  obtain ⟨p, q, hA0, hV, rfl, hfz, hnd⟩ := hW
  have hA : DataW.TrodAll enc Try.prog W 0 (fun _ => true) true Try.f5.params.toList args.toList ds p := hA0
  rw [Try.params5] at hA hval
  obtain ⟨v0, vs0, d0, ds0, p0, q0, hargs, rfl, rfl, h0, r0⟩ := trodAll_cons hA
  obtain ⟨rfl, rfl, rfl⟩ := trodAll_nil r0
  obtain rfl : args = #[v0] := by cases args; simp_all
  obtain ⟨rfl, rfl⟩ := trodVars_none hV
  obtain ⟨a0, len0, cap0, rfl⟩ := okWide_slice Try.underlying22 (hval 0 22 v0 rfl rfl)
  have k0 := h0
  have lt0 : ∀ x ∈ p0, x.block < W.heap.size := by obtain ⟨m, hm⟩ := k0; exact DataW.trod_lt m _ _ _ hm
  obtain ⟨z0, w0⟩ : ∃ zs, IsRow .u8 W a0 len0 cap0 zs := by
    obtain ⟨fuel, hf⟩ := h0
    rcases open_ints Try.underlying22 Try.underlying5 (by kernel_rfl) hf with ⟨hcs, _⟩ | ⟨x, l, c, zs, hcs, _, hl, hm, hz, _, hcell, hwz⟩
    · simp [Value.cells] at hcs
      obtain ⟨rfl, rfl, rfl⟩ := hcs
      exact ⟨[], .inl ⟨rfl, rfl, rfl, rfl⟩⟩
    · simp [Value.cells] at hcs
      obtain ⟨rfl, rfl, rfl⟩ := hcs
      exact ⟨zs, .inr ⟨_, rfl, hl, hm, by simpa using hz, hcell, hwz⟩⟩
  clear hA0 hval0
  refine (walk a0 len0 cap0 z0 W w0).mono fun e W' ⟨he, bel⟩ => ?_
  subst he
  exact ⟨_, rfl, _, _, _, [], _, [], hW', trodAll_mk1 (shut_bool Try.underlying4 _), (trodAll_cons_mk (Below.trod laidOut (by kernel_rfl) (of_decide_eq_true (by kernel_rfl)) k0 bel lt0) trodAll_mk0), rfl, bel.frame _, fun h => by cases h⟩

theorem over : Rows.fnDecodeVectorAllRow.holds Try.pinned (OpenSpec.ofChange Rows.fnDecodeVectorAllSpec) :=
  OpenClaim.holds_of_wide 5 Try.f5 rfl rfl rfl rfl rfl rfl rfl ⟨rfl, rfl, rfl, rfl, rfl⟩ rfl rfl rfl rfl rfl (by kernel_rfl) Try.func5 (by kernel_rfl)
    (of_decide_eq_true (by kernel_rfl)) (by unfold Func.isWrapper; first | (rw [if_pos (by decide +kernel)]; kernel_rfl) | (rw [if_neg (by decide +kernel)]; exact ⟨rfl, rfl⟩))
    (fun os started H enc _ => lifted os started H enc)

/-- THE STATEMENT -/
theorem proved : Rows.FnDecodeVectorAllSaid :=
  over
#print axioms proved
end Go.Proofs.Ytnfjbjlcglfabaa.fnDecodeVectorAll
