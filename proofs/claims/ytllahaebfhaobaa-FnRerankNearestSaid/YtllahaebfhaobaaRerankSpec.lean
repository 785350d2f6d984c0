/-
  RerankNearest of the reference.
-/
import Derived.Test.YtllahaebfhaobaaRerankWalks
namespace Go.Proofs.Ytllahaebfhaobaa
open Go.RowKit
set_option linter.unusedVariables false

set_option maxHeartbeats 1000000 in
theorem specRK_no (w : World) (lo hi l2 h2 l3 h3 : Nat) (a b q p : Option Addr) (cap cap' capq capp : Nat) (n k : Int) (L R : List (List Int)) (ll : List It) (m : List Int) (hS : Sides w lo hi a b L R) (hI : Items w l2 h2 q ll) (hM : Ints w l3 h3 p m) (hr : rkB L R ll m n k = false) :
    Calls Try.prog 30 #[.agg #[.slice a L.length cap, .slice b R.length cap'], .slice q ll.length capq, .slice p m.length capp, .int .i64 n, .int .i64 k] w (NewHits w []) := by
  have hB0 := below_alloc w (.cells #[.slice a L.length cap, .slice b R.length cap'] 25)
  have K := cells2_new w (.slice a L.length cap) (.slice b R.length cap') 25
  obtain ⟨W0, hW0⟩ : ∃ W0, w.alloc (.cells #[.slice a L.length cap, .slice b R.length cap'] 25) = W0 := ⟨_, rfl⟩
  rw [hW0] at hB0 K
  have HSIM := Lib.hid (And.intro (hS.below hB0) (And.intro (hI.below hB0) (hM.below hB0)))
  have HB0 := Lib.hid hB0
  have hs0 := hB0.size
  have HK := Lib.hid K
  obtain ⟨k0, k1⟩ := K
  have IB := Lib.hid (validBook_any W0 _ _ _ _ cap cap' L R HSIM.out.1)
  have VQ := Lib.hid fun w2 (hb : Below W0.heap.size W0 w2) => validQuery_any w2 _ _ _ _ q p capq capp 3 ll m (HSIM.out.2.1.below hb) (HSIM.out.2.2.below hb)
  clear hS hI hM hB0
  cases h1 : inR k 1 16
  · go_enter Try.func30, Try.ntmps30
    go_wp2_with fail
    refine (inRange_any _ _ _ _).mono ?_
    rintro e w2 ⟨rfl, rfl⟩
    go_wp2_with fail
    go_ret
    exact NewHits.nil HB0.out
  · cases h2 : inR n 1 16
    · go_enter Try.func30, Try.ntmps30
      go_wp2_with fail
      refine (inRange_any _ _ _ _).mono ?_
      rintro e w2 ⟨rfl, rfl⟩
      go_wp2_with fail
      refine (inRange_any _ _ _ _).mono ?_
      rintro e w2 ⟨rfl, rfl⟩
      go_wp2_with fail
      go_ret
      exact NewHits.nil HB0.out
    · cases hv : bookB L R
      · rw [hv] at IB
        go_enter Try.func30, Try.ntmps30
        go_wp2_with fail
        refine (inRange_any _ _ _ _).mono ?_
        rintro e w2 ⟨rfl, rfl⟩
        go_wp2_with fail
        refine (inRange_any _ _ _ _).mono ?_
        rintro e w2 ⟨rfl, rfl⟩
        go_wp2_with fail
        refine IB.out.mono ?_
        rintro e w2 ⟨rfl, hb2⟩
        have HB2 : Hid (Below w.heap.size w w2) := Lib.hid (HB0.out.trans (hb2.mono hs0))
        clear hb2
        go_wp2_with fail
        go_ret
        exact NewHits.nil HB2.out
      · rw [hv] at IB
        have hq : qryB ll 3 m = false := by
          cases hq : qryB ll 3 m
          · rfl
          · unfold rkB cnB findB at hr; rw [hv, hq, h1, h2] at hr; cases hr
        rw [hq] at VQ
        go_enter Try.func30, Try.ntmps30
        go_wp2_with fail
        refine (inRange_any _ _ _ _).mono ?_
        rintro e w2 ⟨rfl, rfl⟩
        go_wp2_with fail
        refine (inRange_any _ _ _ _).mono ?_
        rintro e w2 ⟨rfl, rfl⟩
        go_wp2_with fail
        refine IB.out.mono ?_
        rintro e w2 ⟨rfl, hb2⟩
        have HB2 := Lib.hid hb2
        clear hb2
        go_wp2_with fail
        refine (VQ.out w2 HB2.out).mono ?_
        rintro e w3 ⟨rfl, hb3⟩
        have HB3 : Hid (Below w.heap.size w w3) := Lib.hid (HB0.out.trans ((HB2.out.trans (hb3.mono HB2.out.size)).mono hs0))
        clear hb3
        go_wp2_with fail
        go_ret
        exact NewHits.nil HB3.out
set_option maxHeartbeats 2000000 in
theorem specRK_yes (w : World) (lo hi l2 h2 l3 h3 : Nat) (a b q p : Option Addr) (cap cap' capq capp n k : Nat) (L R : List (List Int)) (ll : List It) (m : List Int) (hS : Sides w lo hi a b L R) (hI : Items w l2 h2 q ll) (hM : Ints w l3 h3 p m) (hr : rkB L R ll m (n : Int) (k : Int) = true) :
    Calls Try.prog 30 #[.agg #[.slice a L.length cap, .slice b R.length cap'], .slice q ll.length capq, .slice p m.length capp, .int .i64 (n : Int), .int .i64 (k : Int)] w (NewHits w (nrI 3 m (rrI L R m ll n) k)) := by
  have hc := rkB_cn hr
  have hn := rkB_num hr
  have hv := cnB_book hc
  have hf := cnB_find hc
  have hq := findB_qry hf
  have hk := findB_num hf
  have hs := qryB_store hq
  have hl16 := storeB_len hs
  have hk16 : k ≤ 16 := by omega
  have hn16 : n ≤ 16 := by omega
  have hin1 := inR_true hk
  have hin2 := inR_true hn
  have hcn : cnB L R ll m (n : Int) = true := cnB_mk hv (findB_mk hq (by omega))
  have hB0 := below_alloc w (.cells #[.slice a L.length cap, .slice b R.length cap'] 25)
  have K := cells2_new w (.slice a L.length cap) (.slice b R.length cap') 25
  obtain ⟨W0, hW0⟩ : ∃ W0, w.alloc (.cells #[.slice a L.length cap, .slice b R.length cap'] 25) = W0 := ⟨_, rfl⟩
  rw [hW0] at hB0 K
  have HSIM := Lib.hid (And.intro (hS.below hB0) (And.intro (hI.below hB0) (hM.below hB0)))
  have HB0 := Lib.hid hB0
  have hs0 := hB0.size
  have HK := Lib.hid K
  obtain ⟨k0, k1⟩ := K
  have IB := Lib.hid (validBook_any W0 _ _ _ _ cap cap' L R HSIM.out.1)
  have VQ := Lib.hid fun w2 (hb : Below W0.heap.size W0 w2) => validQuery_any w2 _ _ _ _ q p capq capp 3 ll m (HSIM.out.2.1.below hb) (HSIM.out.2.2.below hb)
  clear hS hI hM hB0
  rw [hv] at IB
  rw [hq] at VQ
  have CN := Lib.hid fun w2 (hb : Below W0.heap.size W0 w2) => specCN_yes w2 _ _ _ _ _ _ a b q p cap cap' capq capp n L R ll m (HSIM.out.1.below hb) (HSIM.out.2.1.below hb) (HSIM.out.2.2.below hb) hcn
  have HND := Lib.hid (storeB_AscI hs).nodup
  have HGET := Lib.hid fun i => rrI_get (L := L) (R := R) (m := m) (n := n) (i := i) (storeB_AscI hs).nodup
  have HRL : Hid ((rrI L R m ll n).length = (cdN L R m ll n).length) := Lib.hid (by unfold rrI; rw [List.length_map])
  have HTK := Lib.hid fun i => rrI_take_succ (L := L) (R := R) (m := m) (ll := ll) (n := n) (i := i)
  have hdl : (cdN L R m ll n).length ≤ 16 := by rw [cdN_length]; omega
  have NI := Lib.hid fun (w2 : World) a4 c4 (hb : Below W0.heap.size W0 w2) (hi4 : Items w2 0 w2.heap.size a4 (rrI L R m ll n)) => specNearest_in w2 _ _ _ _ a4 p c4 capp k 3 _ m hi4 (HSIM.out.2.2.below hb) (rrI_vec hs) (qryB_vec hq) (by rw [HRL.out]; omega) (by omega) (rrI_nodup (storeB_AscI hs).nodup)
  obtain ⟨D, eD⟩ : ∃ D, cdN L R m ll n = D := ⟨_, rfl⟩
  obtain ⟨S, eS⟩ : ∃ S, rrI L R m ll n = S := ⟨_, rfl⟩
  rw [eD] at CN HGET HRL hdl
  rw [eS] at HGET HRL HTK NI ⊢
  clear hr hc hv hf hq hs eD eS hn hk hcn
  go_enter Try.func30, Try.ntmps30
  go_wp2_with fail
  refine (inRange_any _ _ _ _).mono ?_
  rintro e w9 ⟨rfl, rfl⟩
  go_wp2_with fail
  refine (inRange_any _ _ _ _).mono ?_
  rintro e w9 ⟨rfl, rfl⟩
  go_wp2_with fail
  refine IB.out.mono ?_
  rintro e w2 ⟨rfl, hb2⟩
  have HB2 := Lib.hid hb2
  clear hb2
  go_wp2_with fail
  refine (VQ.out w2 HB2.out).mono ?_
  rintro e w3 ⟨rfl, hb3⟩
  have HB3 : Hid (Below W0.heap.size W0 w3) := Lib.hid (HB2.out.trans (hb3.mono HB2.out.size))
  have hs3 := HB3.out.size
  clear hb3 k0 k1 hin1 hin2
  have HA3 := Lib.hid (below_alloc w3 (.cells #[] 34))
  have HE := Lib.hid (owns_empty w3 W0.heap.size 34 3 hs3)
  have k0 := cell_later (HB3.out.trans (HA3.out.mono hs3)) HK.out.1
  have k1 := cell_later (HB3.out.trans (HA3.out.mono hs3)) HK.out.2
  go_wp2_with fail
  have HX3 : Hid (Below W0.heap.size W0 (w3.alloc (.cells #[] 34))) := Lib.hid (HB3.out.trans (HA3.out.mono hs3))
  refine (CN.out _ HX3.out).mono ?_
  rintro e w1 ⟨g, gc, rfl, hg, hgc, hb1⟩
  have HB1 : Hid (Below W0.heap.size W0 w1) := Lib.hid (HX3.out.trans (hb1.mono HX3.out.size))
  have hs1 := HB1.out.size
  have HG := Lib.hid (hg.wide (Nat.zero_le _) (Nat.le_refl _))
  have HOE : Hid (w1.ownsRow W0.heap.size 34 3 (.slice (some ⟨w3.heap.size, 0, none⟩) 0 0) 0 []) := Lib.hid (owns_upd HE.out (Upd.of_below (lo := 0) (hi := 0) hb1) (by omega))
  have HIA := Lib.hid (HSIM.out.2.1.all)
  have hgc1 := hgc.1
  have hgc2 := hgc.2
  clear hg hgc hb1 k0 k1 hW0
  go_wp2_with fail
  go_loopw [11, 13] (fun v i wr => ∃ (j : Nat) (vs : List Value), j ≤ D.length ∧ i = .int .i64 (j : Int) ∧ Hid (wr.ownsRow W0.heap.size 34 3 v j vs ∧ RwsIR wr 0 W0.heap.size vs (S.take j)) ∧ Hid (HitsO wr 0 w1.heap.size g D ∧ w1.heap.size ≤ wr.heap.size) ∧ Hid (Below W0.heap.size W0 wr)) (fun _ i _ => D.length - (intOf i).toNat)
  case atStart => exact ⟨0, [], Nat.zero_le _, rfl, Lib.hid ⟨HOE.out, rwsIR_nil _ _ _⟩, Lib.hid ⟨HG.out, Nat.le_refl _⟩, HB1⟩
  case round =>
    obtain ⟨j, vs, hj, rfl, HO, HH, HW⟩ := hrel
    have hsr := HW.out.size
    by_cases hlt : j < D.length
    · obtain ⟨hb, ho, rfl, _, hbl, c0, c1⟩ := HH.out.1.1.at_ hlt
      obtain ⟨z, hz, ez, es, _⟩ := HGET.out j hlt
      have HTJ := Lib.hid (HTK.out j (by rw [HRL.out]; exact hlt))
      rw [es] at HTJ
      obtain ⟨h, eh⟩ : ∃ h, D.getD j Ht.no = h := ⟨_, rfl⟩
      rw [eh] at c0 c1 ez
      have HI1 := Lib.hid (HIA.out.below HW.out)
      have IX := Lib.hid (keyAt_any wr _ _ q capq z ll h.key HI1.out HND.out hz ez.symm)
      obtain ⟨bb, off, rfl, _, hbb, aj, cj, e0, e1, e2, hx, hcj, hk1, hk2⟩ := HI1.out.at_ hz
      obtain ⟨x, ex⟩ : ∃ x, ll.getD z It.no = x := ⟨_, rfl⟩
      rw [ex] at e0 e1 e2 hx hcj hk1 hk2 HTJ
      have HITV : Hid (ItV wr 0 W0.heap.size x aj cj) := Lib.hid ⟨hx, hcj, hk1, hk2⟩
      have hji : (j : Int) < D.length := by omega
      have hzi : (z : Int) < ll.length := by omega
      clear eh ez es ex hx hcj hk1 hk2
      go_wp2_with fail
      refine IX.out.mono ?_
      rintro e w5 ⟨rfl, rfl⟩
      go_wp2_with (at_builtin; refine append1 rfl _ _ 26 rfl W0.heap.size 34 Try.underlying26 infoItem rfl (by omega) (by omega) _ j vs rfl HO.out.1 (itCells x aj cj) rfl rfl (itCells_one x aj cj) (by omega) (by omega) ?_; intro v' w6 hown6 hg6; have HO6 := Lib.hid hown6; have HG6 := Lib.hid hg6; clear hown6 hg6)
      have HX6 : Hid (Below W0.heap.size W0 w6) := Lib.hid (HW.out.grown HG6.out (by omega) (owns_block HO.out.1))
      have U6 : Hid (Upd W0.heap.size w6.heap.size wr w6) := Lib.hid ⟨HG6.out.os, HG6.out.tape, HG6.out.output, HG6.out.size, fun z hz hd => by
        rcases hd with hd | hd
        · exact HG6.out.block z hz (fun e => by have := owns_block HO.out.1 z e.symm; omega)
        · have := HG6.out.size; omega⟩
      have HH6 := Lib.hid (HH.out.1.grown HO.out.1 (by decide) HG6.out)
      have hs6 := HG6.out.size
      have hs7 := HH.out.2
      go_roundw
      case rel => exact ⟨j + 1, _, by omega, by go_num, Lib.hid ⟨HO6.out, by rw [HTJ.out]; exact (HO.out.2.upd U6.out (by omega)).snoc (HITV.out.upd U6.out (by omega))⟩, Lib.hid ⟨HH6.out, by omega⟩, HX6⟩
      case measure => simp [intOf]; omega
    · have hje : j = D.length := by omega
      subst hje
      have htk : S.take D.length = S := by rw [← HRL.out, List.take_length]
      have HO2 := HO.out.2
      rw [htk] at HO2
      obtain ⟨hnn, a6, c6, hv6, hi6, hc6⟩ := items_of_vals HO.out.1 (hi := wr.heap.size) (lo := 0) (by exact ⟨HO2.1, fun j hj => by obtain ⟨aj, cj, q1, q2, q3, q4⟩ := HO2.2 j hj; exact ⟨aj, cj, q1, q2, q3, q4.wide (Nat.le_refl _) hsr⟩⟩) (by omega) (Nat.zero_le _) (Nat.le_refl _)
      subst hv6
      have N6 := Lib.hid (NI.out wr a6 c6 HW.out hi6)
      have HNN := Lib.hid hnn
      clear hi6 hc6 htk HO2 HO hnn HH
      go_wp2_with fail
      refine N6.out.mono ?_
      rintro e w5 ⟨a5, c5, rfl, h5⟩
      have H5 := Lib.hid h5
      clear h5
      go_wp2_with fail
      go_ret
      exact NewHits.later ⟨a5, c5, rfl, H5.out⟩ (HB0.out.trans (HW.out.mono hs0))
theorem specRK (w : World) (lo hi l2 h2 l3 h3 : Nat) (a b q p : Option Addr) (cap cap' capq capp : Nat) (n k : Int) (L R : List (List Int)) (ll : List It) (m : List Int) (hS : Sides w lo hi a b L R) (hI : Items w l2 h2 q ll) (hM : Ints w l3 h3 p m) :
    Calls Try.prog 30 #[.agg #[.slice a L.length cap, .slice b R.length cap'], .slice q ll.length capq, .slice p m.length capp, .int .i64 n, .int .i64 k] w (NewHits w (rkV L R ll m n k)) := by
  cases hr : rkB L R ll m n k
  · rw [rkV_no hr]
    exact specRK_no w lo hi l2 h2 l3 h3 a b q p cap cap' capq capp n k L R ll m hS hI hM hr
  · rw [rkV_yes hr]
    have hn := rkB_num hr
    have hk := findB_num (cnB_find (rkB_cn hr))
    obtain ⟨x, rfl⟩ : ∃ x : Nat, n = (x : Int) := ⟨n.toNat, by omega⟩
    obtain ⟨y, rfl⟩ : ∃ y : Nat, k = (y : Int) := ⟨k.toNat, by omega⟩
    rw [Int.toNat_natCast, Int.toNat_natCast]
    exact specRK_yes w lo hi l2 h2 l3 h3 a b q p cap cap' capq capp x y L R ll m hS hI hM hr
end Go.Proofs.Ytllahaebfhaobaa
