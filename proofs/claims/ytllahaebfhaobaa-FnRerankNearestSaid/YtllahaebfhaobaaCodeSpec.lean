/-
  CodeNearest of the reference.
-/
import Derived.Test.YtllahaebfhaobaaCodeWalks
namespace Go.Proofs.Ytllahaebfhaobaa
open Go.RowKit
set_option linter.unusedVariables false

set_option maxHeartbeats 1000000 in
theorem specCN_no (w : World) (lo hi l2 h2 l3 h3 : Nat) (a b q p : Option Addr) (cap cap' capq capp : Nat) (k : Int) (L R : List (List Int)) (ll : List It) (m : List Int) (hS : Sides w lo hi a b L R) (hI : Items w l2 h2 q ll) (hM : Ints w l3 h3 p m) (hc : cnB L R ll m k = false) :
    Calls Try.prog 10 #[.agg #[.slice a L.length cap, .slice b R.length cap'], .slice q ll.length capq, .slice p m.length capp, .int .i64 k] w (NewHits w []) := by
  have hB00 := below_alloc w (.cells #[.slice a L.length cap, .slice b R.length cap'] 25)
  have K0 := cells2_new w (.slice a L.length cap) (.slice b R.length cap') 25
  have hB01 := below_alloc (w.alloc (.cells #[.slice a L.length cap, .slice b R.length cap'] 25)) (.cells #[] 58)
  have hB0 := hB00.trans (hB01.mono hB00.size)
  have K : _ ∧ _ := ⟨cell_later hB01 K0.1, cell_later hB01 K0.2⟩
  obtain ⟨W0, hW0⟩ : ∃ W0, (w.alloc (.cells #[.slice a L.length cap, .slice b R.length cap'] 25)).alloc (.cells #[] 58) = W0 := ⟨_, rfl⟩
  rw [hW0] at hB0 K
  clear hB00 hB01 K0
  replace hS := hS.below hB0
  replace hI := hI.below hB0
  replace hM := hM.below hB0
  have HK := Lib.hid K
  have HB0 := Lib.hid hB0
  have hs0 := hB0.size
  clear K
  have k0 := HK.out.1
  have k1 := HK.out.2
  have IB := Lib.hid (validBook_any W0 _ _ _ _ cap cap' L R hS)
  cases hv : bookB L R
  · rw [hv] at IB
    go_enter Try.func10, Try.ntmps10
    go_wp2_with fail
    refine IB.out.mono ?_
    rintro e w2 ⟨rfl, hb2⟩
    have HB2 : Hid (Below w.heap.size w w2) := Lib.hid (HB0.out.trans (hb2.mono hs0))
    clear hb2
    go_wp2_with fail
    go_ret
    exact NewHits.nil HB2.out
  · rw [hv] at IB
    have VQ := Lib.hid fun w2 (hb : Below W0.heap.size W0 w2) => validQuery_any w2 _ _ _ _ q p capq capp 3 ll m (hI.below hb) (hM.below hb)
    cases hq : qryB ll 3 m
    · rw [hq] at VQ
      go_enter Try.func10, Try.ntmps10
      go_wp2_with fail
      refine IB.out.mono ?_
      rintro e w2 ⟨rfl, hb2⟩
      have HB2 := Lib.hid hb2
      clear hb2
      go_wp2_with fail
      refine (VQ.out w2 HB2.out).mono ?_
      rintro e w3 ⟨rfl, hb3⟩
      have HB3 : Hid (Below w.heap.size w w3) := Lib.hid (HB0.out.trans ((HB2.out.trans (hb3.mono HB2.out.size)).mono hs0))
      clear hb3
      go_wp2_with fail
      go_ret
      exact NewHits.nil HB3.out
    · rw [hq] at VQ
      have hr : inR k 1 16 = false := by
        cases hr : inR k 1 16
        · rfl
        · unfold cnB findB at hc; rw [hv, hq, hr] at hc; cases hc
      go_enter Try.func10, Try.ntmps10
      go_wp2_with fail
      refine IB.out.mono ?_
      rintro e w2 ⟨rfl, hb2⟩
      have HB2 := Lib.hid hb2
      clear hb2
      go_wp2_with fail
      refine (VQ.out w2 HB2.out).mono ?_
      rintro e w3 ⟨rfl, hb3⟩
      have HB3 : Hid (Below w.heap.size w w3) := Lib.hid (HB0.out.trans ((HB2.out.trans (hb3.mono HB2.out.size)).mono hs0))
      clear hb3
      go_wp2_with fail
      refine (inRange_any _ _ _ _).mono ?_
      rintro e w4 ⟨rfl, rfl⟩
      go_wp2_with fail
      go_ret
      exact NewHits.nil HB3.out
set_option maxRecDepth 100000 in
set_option maxHeartbeats 4000000 in
theorem specCN_yes (w : World) (lo hi l2 h2 l3 h3 : Nat) (a b q p : Option Addr) (cap cap' capq capp k : Nat) (L R : List (List Int)) (ll : List It) (m : List Int) (hS : Sides w lo hi a b L R) (hI : Items w l2 h2 q ll) (hM : Ints w l3 h3 p m) (hc : cnB L R ll m (k : Int) = true) :
    Calls Try.prog 10 #[.agg #[.slice a L.length cap, .slice b R.length cap'], .slice q ll.length capq, .slice p m.length capp, .int .i64 (k : Int)] w (NewHits w (cdN L R m ll k)) := by
  have hv := cnB_book hc
  have hf := cnB_find hc
  have hq := findB_qry hf
  have hs := qryB_store hq
  have hm := qryB_vec hq
  have hl16 := storeB_len hs
  have hk := findB_num hf
  have hk16 : k ≤ 16 := by omega
  have HV := Lib.hid (And.intro hv (And.intro hs hm))
  have hB00 := below_alloc w (.cells #[.slice a L.length cap, .slice b R.length cap'] 25)
  have K0 := cells2_new w (.slice a L.length cap) (.slice b R.length cap') 25
  have hB01 := below_alloc (w.alloc (.cells #[.slice a L.length cap, .slice b R.length cap'] 25)) (.cells #[] 58)
  have hB0 := hB00.trans (hB01.mono hB00.size)
  have K : _ ∧ _ := ⟨cell_later hB01 K0.1, cell_later hB01 K0.2⟩
  obtain ⟨W0, hW0⟩ : ∃ W0, (w.alloc (.cells #[.slice a L.length cap, .slice b R.length cap'] 25)).alloc (.cells #[] 58) = W0 := ⟨_, rfl⟩
  rw [hW0] at hB0 K
  clear hB00 hB01 K0
  have HS := Lib.hid (hS.below hB0)
  have HIM := Lib.hid (And.intro (hI.below hB0) (hM.below hB0))
  have HK := Lib.hid K
  have HB0 := Lib.hid hB0
  have hs0 := hB0.size
  have IB := Lib.hid (validBook_any W0 _ _ _ _ cap cap' L R HS.out)
  rw [hv] at IB
  have VQ := Lib.hid fun w2 (hb : Below W0.heap.size W0 w2) => validQuery_any w2 _ _ _ _ q p capq capp 3 ll m (HIM.out.1.below hb) (HIM.out.2.below hb)
  rw [hq] at VQ
  have hr := inR_true hk
  have HSR := Lib.hid fun j (hj : j ≤ ll.length) => nrN_srt (((storeB_AscI hs).nodup.keysC L R m).less hj) k
  have HLN := Lib.hid (nrN_length (cdsI L R m ll) k)
  have k0 := HK.out.1
  have k1 := HK.out.2
  clear hv hs hm hI hM hS hB0 K hc hf hq hk
  go_enter Try.func10, Try.ntmps10
  go_wp2_with fail
  refine IB.out.mono ?_
  rintro e w2 ⟨rfl, hb2⟩
  have HB2 := Lib.hid hb2
  clear hb2
  go_wp2_with fail
  refine (VQ.out w2 HB2.out).mono ?_
  rintro e w3 ⟨rfl, hb3⟩
  have HB3 : Hid (Below W0.heap.size W0 w3) := Lib.hid (HB2.out.trans (hb3.mono HB2.out.size))
  clear hb3
  go_wp2_with fail
  refine (inRange_any _ _ _ _).mono ?_
  rintro e w4 ⟨rfl, rfl⟩
  go_wp2_with fail
  clear k0 k1 hW0 hr
  go_loopw [9, 10] (fun v i wr => ∃ j z cz : Nat, j ≤ ll.length ∧ v = .slice (some ⟨z, 0, none⟩) (nrN (cdsI L R m ll) k j).length cz ∧ i = .int .i64 (j : Int) ∧ Hid (HitsO wr w.heap.size wr.heap.size (some ⟨z, 0, none⟩) (nrN (cdsI L R m ll) k j) ∧ Cap (nrN (cdsI L R m ll) k j).length cz) ∧ Hid (Below W0.heap.size W0 wr)) (fun _ i _ => ll.length - (intOf i).toNat)
  case atStart => exact ⟨0, _, _, Nat.zero_le _, by rw [show nrN (cdsI L R m ll) k 0 = [] from List.take_nil]; rfl, rfl, Lib.hid (by rw [show nrN (cdsI L R m ll) k 0 = [] from List.take_nil]; exact ⟨hitsO_nil _ _ _ _, by simp, by omega⟩), HB3⟩
  case round =>
    obtain ⟨j, z, cz, hj, rfl, rfl, HO, HX⟩ := hrel
    have hsx := HX.out.size
    by_cases hlt : j < ll.length
    · obtain ⟨bb, off, rfl, _, _, aj, cj, c0, c1, c2, hx, hcj, hk1, hk2⟩ := (HIM.out.1.below HX.out).at_ hlt
      have VX := Lib.hid (storeB_vec HV.out.2.1 hlt)
      have HSC := Lib.hid (nrC_succ L R m ll k j)
      have HSJ := Lib.hid (HSR.out j (by omega))
      have HLJ := Lib.hid (HLN.out j)
      have HOO := Lib.hid HO.out.1.1
      obtain ⟨x, ex⟩ : ∃ x, ll.getD j It.no = x := ⟨_, rfl⟩
      rw [ex] at c0 c1 c2 hx hcj hk1 hk2 VX HSC
      clear ex
      have hx4 : x.pos.length = 4 := by have := vecB_len VX.out; omega
      have b0 := cell_later HX.out HK.out.1
      have b1 := cell_later HX.out HK.out.2
      have ED := Lib.hid (encI_bd HV.out.1 x.pos).2.2
      have EN := Lib.hid fun w' (bl : Below wr.heap.size wr w') => specEncode w' _ _ _ _ _ _ _ cap cap' cj L R x.pos (HS.out.below (HX.out.trans (bl.mono hsx))) (hx.below bl) HV.out.1 VX.out hcj
      have DE := Lib.hid fun w' (bl : Below wr.heap.size wr w') => specDecode w' _ _ _ _ cap cap' L R (encI L R x.pos) (HS.out.below (HX.out.trans (bl.mono hsx))) HV.out.1 ED.out
      have DV := Lib.hid (decL_vec HV.out.1 ED.out)
      have HM1 := Lib.hid (HIM.out.2.below HX.out)
      obtain ⟨c, ec⟩ : ∃ c, encI L R x.pos = c := ⟨_, rfl⟩
      rw [ec] at EN DE DV HSC ED
      have hm4 : m.length = 4 := by have := vecB_len HV.out.2.2; omega
      have D4 : Hid ((decL L R c).length = 4) := Lib.hid (by have := vecB_len DV.out; omega)
      have DC : Hid (dst 3 (decL L R c) m (decL L R c).length = dst 3 (decL L R c) m 4) := Lib.hid (by rw [D4.out])
      obtain ⟨dl, edl⟩ : ∃ dl, decL L R c = dl := ⟨_, rfl⟩
      rw [edl] at DE DV D4 DC HSC
      obtain ⟨d, ed⟩ : ∃ d, dst 3 dl m 4 = d := ⟨_, rfl⟩
      rw [ed] at DC HSC
      rw [hx4] at EN c1
      have hji : (j : Int) < ll.length := by omega
      have A1 := Lib.hid fun w' (dd : Below wr.heap.size wr w') => addHit_any w' _ _ z 0 cz _ ⟨x.key, d⟩ k (HOO.out.below dd) HSJ.out (by rw [HLJ.out]; omega) (by omega)
      rw [← HSC.out] at A1
      obtain ⟨n, en⟩ : ∃ n, (nrN (cdsI L R m ll) k j).length = n := ⟨_, rfl⟩
      rw [en] at A1 ⊢
      have KD := Lib.hid (show ∀ w', Below wr.heap.size wr w' → w'.cell? ⟨w.heap.size, 0, none⟩ = some (.slice a L.length cap) ∧ w'.cell? ⟨w.heap.size, 1, none⟩ = some (.slice b R.length cap') ∧ w'.cell? ⟨bb, off + j * 3, none⟩ = some (.int .i64 x.key) ∧ w'.cell? ⟨bb, off + j * 3 + 1, none⟩ = some (.slice aj 4 cj) from fun w' bl => ⟨cell_later bl b0, cell_later bl b1, cell_later bl c0, cell_later bl c1⟩)
      have HDR : Hid (Below wr.heap.size wr wr.drew) := Lib.hid (Below.refl _ _).drew
      have HM4 := Lib.hid hm4
      clear hcj hk1 hk2 hx ec edl ed hx4 b0 b1 hm4 c2 en
      go_wp2_with fail
      clear c0 c1
      go_region_held3 (fun w' => w'.cell? ⟨w.heap.size, 0, none⟩ = some (.slice a L.length cap) ∧ w'.cell? ⟨w.heap.size, 1, none⟩ = some (.slice b R.length cap') ∧ w'.cell? ⟨bb, off + j * 3, none⟩ = some (.int .i64 x.key) ∧ w'.cell? ⟨bb, off + j * 3 + 1, none⟩ = some (.slice aj 4 cj))
        (first | (with_reducible exact KD.out _ HX3.out) | (with_reducible exact KD.out _ HX4.out) | (with_reducible exact KD.out _ HX5.out) | (with_reducible exact KD.out _ HX7.out) | (with_reducible exact KD.out _ HDR.out) | go_keep)
        (first
          | (go_at_call 47; refine (EN.out _ HDR.out).mono ?_; rintro e w3 ⟨rfl, hb3⟩; have HX3 : Hid (Below wr.heap.size wr w3) := Lib.hid (HDR.out.trans hb3); have hs3 := HX3.out.size; clear hb3)
          | (go_at_call 46; refine (DE.out w3 HX3.out).mono ?_; rintro e w4 ⟨g, gcap, rfl, g1, g2, hown, hb4⟩; have HX4 : Hid (Below wr.heap.size wr w4) := Lib.hid (HX3.out.trans (hb4.mono hs3)); have hs4 := HX4.out.size; have HDI := Lib.hid (owns_mark hown (fun z hz => by have := coordsB_ok (vecB_coords DV.out) z hz; omega) (by have := D4.out; omega)).2.1; clear hown hb4)
          | (go_at_call 45; refine (specDist w4 _ _ _ _ _ _ gcap capp dl m 3 HDI.out (HM1.out.below HX4.out) (vecB_coords DV.out) (vecB_coords HV.out.2.2) (by have := D4.out; have := HM4.out; omega) (by have := D4.out; omega)).mono ?_; rw [DC.out]; rintro e w5 ⟨rfl, hd5⟩; have HX5 : Hid (Below wr.heap.size wr w5) := Lib.hid (HX4.out.trans (Drawn.below hd5)); have hs5 := HX5.out.size; clear hd5)
          | (go_at_call 44; refine (A1.out w5 HX5.out).mono ?_; rintro e w7 ⟨g7, cg7, rfl, hh, hcap, hb⟩; have HH7 := Lib.hid (And.intro hh hcap); have HX7 : Hid (Below wr.heap.size wr w7) := Lib.hid (HX5.out.trans (hb.mono hs5)); clear hh hcap hb))
      go_wp2_with fail
      go_roundw
      case rel => exact ⟨j + 1, g7, cg7, by omega, rfl, by go_num, Lib.hid ⟨HH7.out.1.wide (by omega) (Nat.le_refl _), HH7.out.2⟩, Lib.hid (HX.out.trans (HX7.out.mono hsx))⟩
      case measure => simp [intOf]; omega
    · have hje : j = ll.length := by omega
      subst hje
      go_wp2_with fail
      go_ret
      exact ⟨_, cz, rfl, HO.out.1, HO.out.2, HB0.out.trans (HX.out.mono hs0)⟩
theorem specCN (w : World) (lo hi l2 h2 l3 h3 : Nat) (a b q p : Option Addr) (cap cap' capq capp : Nat) (k : Int) (L R : List (List Int)) (ll : List It) (m : List Int) (hS : Sides w lo hi a b L R) (hI : Items w l2 h2 q ll) (hM : Ints w l3 h3 p m) :
    Calls Try.prog 10 #[.agg #[.slice a L.length cap, .slice b R.length cap'], .slice q ll.length capq, .slice p m.length capp, .int .i64 k] w (NewHits w (cnV L R ll m k)) := by
  cases hc : cnB L R ll m k
  · rw [cnV_no hc]
    exact specCN_no w lo hi l2 h2 l3 h3 a b q p cap cap' capq capp k L R ll m hS hI hM hc
  · rw [cnV_yes hc]
    have hk := findB_num (cnB_find hc)
    obtain ⟨n, rfl⟩ : ∃ n : Nat, k = (n : Int) := ⟨k.toNat, by omega⟩
    rw [Int.toNat_natCast]
    exact specCN_yes w lo hi l2 h2 l3 h3 a b q p cap cap' capq capp n L R ll m hS hI hM hc
end Go.Proofs.Ytllahaebfhaobaa
