/-
  The walks of codeNearest and CodeNearest.
-/
import Derived.Test.YtllahaebfhaobaaCodePlain
import Derived.Test.YtllahaebfhaobaaQueryWalks
import Derived.Test.YtllahaebfhaobaaBookTops
import Derived.Test.YtllahaebfhaobaaMarkWalks
namespace Go.Proofs.Ytllahaebfhaobaa
open Go.RowKit
set_option linter.unusedVariables false

theorem lstC_succ (L R : List (List Int)) (m : List Int) (ll : List It) (j : Nat) : lstN (cdsI L R m ll) (j + 1) = lstN (cdsI L R m ll) j ++ [⟨(ll.getD j It.no).key, dst 3 (decL L R (encI L R (ll.getD j It.no).pos)) m 4⟩] := lstN_succ _ _
theorem nrC_succ (L R : List (List Int)) (m : List Int) (ll : List It) (k j : Nat) : nrN (cdsI L R m ll) k (j + 1) = (insH ⟨(ll.getD j It.no).key, dst 3 (decL L R (encI L R (ll.getD j It.no).pos)) m 4⟩ (nrN (cdsI L R m ll) k j)).take k := nrN_succ _ _ _
set_option maxRecDepth 100000 in
set_option maxHeartbeats 4000000 in
theorem codeNearest_in (w : World) (lo hi l2 h2 l3 h3 : Nat) (a b q p : Option Addr) (cap cap' capq capp k : Nat) (L R : List (List Int)) (ll : List It) (m : List Int) (hS : Sides w lo hi a b L R) (hI : Items w l2 h2 q ll) (hM : Ints w l3 h3 p m) (hv : bookB L R = true) (hs : storeB ll = true) (hm : vecB m 4 = true) (hk : k ≤ 1000) :
    Calls Try.prog 40 #[.agg #[.slice a L.length cap, .slice b R.length cap'], .slice q ll.length capq, .slice p m.length capp, .int .i64 (k : Int)] w (NewHits w (cdN L R m ll k)) := by
  have hl16 := storeB_len hs
  have HV := Lib.hid (And.intro hv (And.intro hs hm))
  have hB0 := below_alloc w (.cells #[.slice a L.length cap, .slice b R.length cap'] 25)
  have K := cells2_new w (.slice a L.length cap) (.slice b R.length cap') 25
  obtain ⟨W0, hW0⟩ : ∃ W0, w.alloc (.cells #[.slice a L.length cap, .slice b R.length cap'] 25) = W0 := ⟨_, rfl⟩
  have hsz0 : w.heap.size < W0.heap.size := by rw [← hW0]; simp
  rw [hW0] at hB0 K
  have HS := Lib.hid (hS.below hB0)
  have HIM := Lib.hid (And.intro (hI.below hB0) (hM.below hB0))
  have HK := Lib.hid K
  have HB0 := Lib.hid hB0
  have hs0 := hB0.size
  have HD := Lib.hid (cdN_eq (L := L) (R := R) (m := m) (storeB_AscI hs).nodup k)
  have HE := Lib.hid (owns_empty W0 W0.heap.size 58 2 (Nat.le_refl _))
  have HQ : Hid (Below w.heap.size w W0) := HB0
  clear hv hs hm hI hM hS hB0 K
  go_enter Try.func40, Try.ntmps40
  go_wp2_with fail
  clear hW0
  go_loopw [9, 15] (fun v i wr => ∃ j : Nat, j ≤ ll.length ∧ i = .int .i64 (j : Int) ∧ Hid (wr.ownsRow W0.heap.size 58 2 v j (flatH (lstN (cdsI L R m ll) j)) ∧ (v = .slice none 0 0 → False)) ∧ Hid (Below W0.heap.size W0 wr)) (fun _ i _ => ll.length - (intOf i).toNat)
  case atStart => exact ⟨0, Nat.zero_le _, rfl, Lib.hid ⟨HE.out, by simp⟩, Lib.hid (below_alloc _ _)⟩
  case round =>
    obtain ⟨j, hj, rfl, HO, HX⟩ := hrel
    have hsx := HX.out.size
    by_cases hlt : j < ll.length
    · obtain ⟨bb, off, rfl, _, _, aj, cj, c0, c1, c2, hx, hcj, hk1, hk2⟩ := (HIM.out.1.below HX.out).at_ hlt
      have VX := Lib.hid (storeB_vec HV.out.2.1 hlt)
      have HSC := Lib.hid (lstC_succ L R m ll j)
      obtain ⟨x, ex⟩ : ∃ x, ll.getD j It.no = x := ⟨_, rfl⟩
      rw [ex] at c0 c1 c2 hx hcj hk1 hk2 VX HSC
      clear ex
      have hx4 : x.pos.length = 4 := by have := vecB_len VX.out; omega
      have hb := below_alloc wr (.cells #[.int .i64 x.key, .slice aj x.pos.length cj, .int .i64 x.tags] 34)
      obtain ⟨d0, d1, d2⟩ := cells3_new wr (.int .i64 x.key) (.slice aj x.pos.length cj) (.int .i64 x.tags) 34
      obtain ⟨W1, hW1⟩ : ∃ W1, wr.alloc (.cells #[.int .i64 x.key, .slice aj x.pos.length cj, .int .i64 x.tags] 34) = W1 := ⟨_, rfl⟩
      rw [hW1] at d0 d1 d2 hb
      have b0 := cell_later (HX.out.trans (hb.mono hsx)) HK.out.1
      have b1 := cell_later (HX.out.trans (hb.mono hsx)) HK.out.2
      have HB1 : Hid (Below W0.heap.size W0 W1) := Lib.hid (HX.out.trans (hb.mono hsx))
      have hs1 := HB1.out.size
      have ED := Lib.hid (encI_bd HV.out.1 x.pos).2.2
      have EN := Lib.hid fun w' (bl : Below W1.heap.size W1 w') => implEncode w' _ _ _ _ _ _ _ cap cap' cj L R x.pos (HS.out.below (HB1.out.trans (bl.mono hs1))) ((hx.below hb).below bl) HV.out.1 VX.out hcj
      have DE := Lib.hid fun w' (bl : Below W1.heap.size W1 w') => implDecode w' _ _ _ _ cap cap' L R (encI L R x.pos) (HS.out.below (HB1.out.trans (bl.mono hs1))) HV.out.1 ED.out
      have DV := Lib.hid (decL_vec HV.out.1 ED.out)
      have HM1 := Lib.hid (HIM.out.2.below HB1.out)
      obtain ⟨c, ec⟩ : ∃ c, encI L R x.pos = c := ⟨_, rfl⟩
      rw [ec] at EN DE DV HSC ED
      have hm4 : m.length = 4 := by have := vecB_len HV.out.2.2; omega
      have D4 : Hid ((decL L R c).length = 4) := Lib.hid (by have := vecB_len DV.out; omega)
      have DC : Hid (dst 3 m (decL L R c) m.length = dst 3 (decL L R c) m 4) := Lib.hid (by rw [hm4, dst_comm])
      obtain ⟨dl, edl⟩ : ∃ dl, decL L R c = dl := ⟨_, rfl⟩
      rw [edl] at DE DV D4 DC HSC
      obtain ⟨d, ed⟩ : ∃ d, dst 3 dl m 4 = d := ⟨_, rfl⟩
      rw [ed] at DC HSC
      rw [hx4] at EN d1 c1
      have hji : (j : Int) < ll.length := by omega
      have HBW := Lib.hid hb
      have HNE := Lib.hid (fun z e => HO.out.1.lt z e)
      have KD := Lib.hid (show ∀ w', Below W1.heap.size W1 w' → w'.cell? ⟨w.heap.size, 0, none⟩ = some (.slice a L.length cap) ∧ w'.cell? ⟨w.heap.size, 1, none⟩ = some (.slice b R.length cap') ∧ w'.cell? ⟨wr.heap.size, 0, none⟩ = some (.int .i64 x.key) ∧ w'.cell? ⟨wr.heap.size, 1, none⟩ = some (.slice aj 4 cj) from fun w' bl => ⟨cell_later bl b0, cell_later bl b1, cell_later bl d0, cell_later bl d1⟩)
      have HDR : Hid (Below W1.heap.size W1 W1.drew) := Lib.hid (Below.refl _ _).drew
      rw [hx4] at hW1
      have HM4 := Lib.hid hm4
      clear hcj hk1 hk2 hx ec edl ed hb hx4 b0 b1 d0 d1 d2 hm4
      go_wp2_with fail
      clear hW1 c0 c1 c2
      go_region_held3 (fun w' => w'.cell? ⟨w.heap.size, 0, none⟩ = some (.slice a L.length cap) ∧ w'.cell? ⟨w.heap.size, 1, none⟩ = some (.slice b R.length cap') ∧ w'.cell? ⟨wr.heap.size, 0, none⟩ = some (.int .i64 x.key) ∧ w'.cell? ⟨wr.heap.size, 1, none⟩ = some (.slice aj 4 cj))
        (first | (with_reducible exact KD.out _ HX3.out) | (with_reducible exact KD.out _ HX4.out) | (with_reducible exact KD.out _ HX5.out) | (with_reducible exact KD.out _ HX6.out) | (with_reducible exact HS7.out) | (with_reducible exact KD.out _ HDR.out) | go_keep)
        (first
          | (go_at_call 50; refine (EN.out _ HDR.out).mono ?_; rintro e w3 ⟨rfl, hb3⟩; have HX3 : Hid (Below W1.heap.size W1 w3) := Lib.hid (HDR.out.trans hb3); have hs3 := HX3.out.size; clear hb3)
          | (go_at_call 48; refine (DE.out w3 HX3.out).mono ?_; rintro e w4 ⟨g, gcap, rfl, g1, g2, hown, hb4⟩; have HX4 : Hid (Below W1.heap.size W1 w4) := Lib.hid (HX3.out.trans (hb4.mono hs3)); have hs4 := HX4.out.size; have HDI := Lib.hid (owns_mark hown (fun z hz => by have := coordsB_ok (vecB_coords DV.out) z hz; omega) (by have := D4.out; omega)).2.1; clear hown hb4)
          | (go_at_call 64; refine (implDistance w4 _ _ _ _ _ _ capp gcap m dl 3 (HM1.out.below HX4.out) HDI.out (vecB_coords HV.out.2.2) (vecB_coords DV.out) (by have := D4.out; have := HM4.out; omega) (by have := HM4.out; omega)).mono ?_; rw [DC.out]; rintro e w5 ⟨rfl, hd5⟩; have HX5 : Hid (Below W1.heap.size W1 w5) := Lib.hid (HX4.out.trans (Drawn.below hd5)); have hs5 := HX5.out.size; have HO5 := Lib.hid (owns_upd HO.out.1 (Upd.of_below (lo := 0) (hi := 0) (HBW.out.trans (HX5.out.mono HBW.out.size))) (by omega)); have HX6 : Hid (Below W1.heap.size W1 (w5.alloc (.cells #[.int .i64 x.key, .int .i64 d] 58))) := Lib.hid (HX5.out.alloc hs5 _); clear hd5)
          | (refine step_append_at rfl (.tmp 19) (.tmp 31) 30 rfl W0.heap.size 58 Try.underlying30 infoHit rfl (by omega) (by omega) _ j (flatH (lstN (cdsI L R m ll) j)) rfl (HO5.out.alloc _) ⟨w5.heap.size, 0, none⟩ 1 1 [.int .i64 x.key, .int .i64 d] rfl rfl (news2_new w5 _ _ _) (htCells_one ⟨x.key, d⟩) (by omega) (by simp; omega) ?_; intro v7 w7 hown7 hg7 hv7; have HB7 : Hid (Below W0.heap.size W0 w7) := Lib.hid (((HB1.out.trans (HX5.out.mono hs1)).alloc (by omega) _).grown hg7 (by simp; omega) (owns_block HO5.out)); have HO7 := Lib.hid hown7; have HV7 := Lib.hid hv7; have HS7 := Lib.hid (show w7.cell? ⟨w.heap.size, 0, none⟩ = some (.slice a L.length cap) ∧ w7.cell? ⟨w.heap.size, 1, none⟩ = some (.slice b R.length cap') ∧ w7.cell? ⟨wr.heap.size, 0, none⟩ = some (.int .i64 x.key) ∧ w7.cell? ⟨wr.heap.size, 1, none⟩ = some (.slice aj 4 cj) from ⟨hg7.cell (KD.out _ HX6.out).1 (fun e => by have := HNE.out _ e.symm; dsimp only at this; omega), hg7.cell (KD.out _ HX6.out).2.1 (fun e => by have := HNE.out _ e.symm; dsimp only at this; omega), hg7.cell (KD.out _ HX6.out).2.2.1 (fun e => by have := HNE.out _ e.symm; dsimp only at this; omega), hg7.cell (KD.out _ HX6.out).2.2.2 (fun e => by have := HNE.out _ e.symm; dsimp only at this; omega)⟩); clear hown7 hg7 hv7))
      go_wp2_with fail
      go_roundw
      case rel => exact ⟨j + 1, by omega, by go_num, Lib.hid ⟨by rw [HSC.out, flatH_app, flatH_one]; exact HO7.out, fun e => by have := (HV7.out.1 e).2; omega⟩, HB7⟩
      case measure => simp [intOf]; omega
    · have hje : j = ll.length := by omega
      subst hje
      obtain ⟨ho, hnn⟩ := HO.out
      have hform : ∃ g cap, u9 = .slice (some ⟨g, 0, none⟩) ll.length cap ∧ W0.heap.size ≤ g := by
        rcases ho.2 with ⟨hv, _⟩ | ⟨g, c', cur, hv, hb, _⟩
        · exact absurd hv hnn
        · exact ⟨g, c', hv, hb⟩
      obtain ⟨g, c, rfl, hg⟩ := hform
      have FH := Lib.hid (firstHits_any wr W0.heap.size g ll.length c k _ ho (by omega) (by omega))
      rw [HD.out] at FH
      clear ho hnn HO
      go_wp2_with fail
      refine FH.out.mono ?_
      rintro e w3 ⟨a3, c3, rfl, h1, h2, h3⟩
      have HF := Lib.hid (And.intro h1 (And.intro h2 h3))
      clear h1 h2 h3
      go_wp2_with fail
      go_ret
      obtain ⟨h1, h2, h3⟩ := HF.out
      exact ⟨a3, c3, rfl, h1.wide (by omega) (Nat.le_refl _), h2, HB0.out.trans ((HX.out.trans (h3.low hg hsx)).mono hs0)⟩
/-- what the searches of codes ask of their arguments -/
def cnB (L R : List (List Int)) (ll : List It) (m : List Int) (k : Int) : Bool := bookB L R && findB ll 3 m k
theorem cnB_book {L R : List (List Int)} {ll : List It} {m : List Int} {k : Int} (h : cnB L R ll m k = true) : bookB L R = true := by
  unfold cnB at h; simp only [Bool.and_eq_true] at h; exact h.1
theorem cnB_find {L R : List (List Int)} {ll : List It} {m : List Int} {k : Int} (h : cnB L R ll m k = true) : findB ll 3 m k = true := by
  unfold cnB at h; simp only [Bool.and_eq_true] at h; exact h.2
theorem cnB_mk {L R : List (List Int)} {ll : List It} {m : List Int} {k : Int} (h1 : bookB L R = true) (h2 : findB ll 3 m k = true) : cnB L R ll m k = true := by
  unfold cnB; rw [h1, h2]; rfl
/-- what CodeNearest answers -/
def cnV (L R : List (List Int)) (ll : List It) (m : List Int) (k : Int) : List Ht := if cnB L R ll m k then cdN L R m ll k.toNat else []
theorem cnV_yes {L R : List (List Int)} {ll : List It} {m : List Int} {k : Int} (h : cnB L R ll m k = true) : cnV L R ll m k = cdN L R m ll k.toNat := by unfold cnV; rw [h]; rfl
theorem cnV_no {L R : List (List Int)} {ll : List It} {m : List Int} {k : Int} (h : cnB L R ll m k = false) : cnV L R ll m k = [] := by unfold cnV; rw [h]; rfl
theorem cnV_len (L R : List (List Int)) (ll : List It) (m : List Int) (k : Int) : (cnV L R ll m k).length ≤ 1048576 := by
  cases h : cnB L R ll m k
  · rw [cnV_no h]; simp
  · rw [cnV_yes h, cdN_length]
    have := storeB_len (qryB_store (findB_qry (cnB_find h)))
    omega
set_option maxHeartbeats 1000000 in
theorem implCN (w : World) (lo hi l2 h2 l3 h3 : Nat) (a b q p : Option Addr) (cap cap' capq capp : Nat) (k : Int) (L R : List (List Int)) (ll : List It) (m : List Int) (hS : Sides w lo hi a b L R) (hI : Items w l2 h2 q ll) (hM : Ints w l3 h3 p m) :
    Calls Try.prog 8 #[.agg #[.slice a L.length cap, .slice b R.length cap'], .slice q ll.length capq, .slice p m.length capp, .int .i64 k] w (NewHits w (cnV L R ll m k)) := by
  have hB0 := below_alloc w (.cells #[.slice a L.length cap, .slice b R.length cap'] 25)
  have K := cells2_new w (.slice a L.length cap) (.slice b R.length cap') 25
  obtain ⟨W0, hW0⟩ : ∃ W0, w.alloc (.cells #[.slice a L.length cap, .slice b R.length cap'] 25) = W0 := ⟨_, rfl⟩
  have hsz0 : w.heap.size < W0.heap.size := by rw [← hW0]; simp
  rw [hW0] at hB0 K
  replace hS := hS.below hB0
  replace hI := hI.below hB0
  replace hM := hM.below hB0
  have HK := Lib.hid K
  have HB0 := Lib.hid hB0
  have hs0 := hB0.size
  clear K
  cases hv : bookB L R
  · rw [cnV_no (by unfold cnB; rw [hv]; rfl)]
    have IB := Lib.hid (isBook_any W0 _ _ _ _ cap cap' L R hS)
    rw [hv] at IB
    have k0 := HK.out.1
    have k1 := HK.out.2
    go_enter Try.func8, Try.ntmps8
    go_wp2_with fail
    refine IB.out.mono ?_
    rintro e w2 ⟨rfl, hb2⟩
    have HB2 : Hid (Below w.heap.size w w2) := Lib.hid (HB0.out.trans (hb2.mono hs0))
    clear hb2
    go_wp2_with fail
    go_ret
    exact NewHits.nil HB2.out
  · have IB := Lib.hid (isBook_any W0 _ _ _ _ cap cap' L R hS)
    rw [hv] at IB
    cases hf : findB ll 3 m k
    · rw [cnV_no (by unfold cnB; rw [hv, hf]; rfl)]
      have CF := Lib.hid fun w2 (hb : Below W0.heap.size W0 w2) => canFind_any w2 _ _ _ _ q p capq capp 3 k ll m (hI.below hb) (hM.below hb)
      rw [hf] at CF
      have k0 := HK.out.1
      have k1 := HK.out.2
      go_enter Try.func8, Try.ntmps8
      go_wp2_with fail
      refine IB.out.mono ?_
      rintro e w2 ⟨rfl, hb2⟩
      have HB2 := Lib.hid hb2
      clear hb2
      go_wp2_with fail
      refine (CF.out w2 HB2.out).mono ?_
      rintro e w3 ⟨rfl, hb3⟩
      have HB3 : Hid (Below w.heap.size w w3) := Lib.hid (HB0.out.trans ((HB2.out.trans (hb3.mono HB2.out.size)).mono hs0))
      clear hb3
      go_wp2_with fail
      go_ret
      exact NewHits.nil HB3.out
    · rw [cnV_yes (cnB_mk hv hf)]
      have hk := findB_num hf
      obtain ⟨n, rfl⟩ : ∃ n : Nat, k = (n : Int) := ⟨k.toNat, by omega⟩
      rw [Int.toNat_natCast]
      have CF := Lib.hid fun w2 (hb : Below W0.heap.size W0 w2) => canFind_any w2 _ _ _ _ q p capq capp 3 (n : Int) ll m (hI.below hb) (hM.below hb)
      rw [hf] at CF
      have CN := Lib.hid fun w2 (hb : Below W0.heap.size W0 w2) => codeNearest_in w2 _ _ _ _ _ _ a b q p cap cap' capq capp n L R ll m (hS.below hb) (hI.below hb) (hM.below hb) hv (qryB_store (findB_qry hf)) (qryB_vec (findB_qry hf)) (by omega)
      have k0 := HK.out.1
      have k1 := HK.out.2
      clear hk hf hv
      go_enter Try.func8, Try.ntmps8
      go_wp2_with fail
      refine IB.out.mono ?_
      rintro e w2 ⟨rfl, hb2⟩
      have HB2 := Lib.hid hb2
      clear hb2
      go_wp2_with fail
      refine (CF.out w2 HB2.out).mono ?_
      rintro e w3 ⟨rfl, hb3⟩
      have HB3 : Hid (Below W0.heap.size W0 w3) := Lib.hid (HB2.out.trans (hb3.mono HB2.out.size))
      replace k0 := cell_later HB3.out HK.out.1
      replace k1 := cell_later HB3.out HK.out.2
      clear hb3
      go_wp2_with fail
      refine (CN.out w3 HB3.out).mono ?_
      rintro e w4 ⟨a4, c4, rfl, h4⟩
      have H4 := Lib.hid h4
      clear h4
      go_wp2_with fail
      go_ret
      exact NewHits.later ⟨a4, c4, rfl, H4.out⟩ (HB0.out.trans (HB3.out.mono hs0))
end Go.Proofs.Ytllahaebfhaobaa
