/-
  ProbeCost and ProbeNearest of the reference.
-/
import Derived.Test.YtmpoljhdcgdnnaaCostWalks
namespace Go.Proofs.Ytmpoljhdcgdnnaa
open Go.RowKit
set_option linter.unusedVariables false

set_option maxHeartbeats 1000000 in
theorem specCost_no (w : World) (lo hi lo' hi' l3 h3 : Nat) (a b p : Option Addr) (cap cap' capm : Nat) (n : Int) (cs : List (List Int)) (ll : List It) (m : List Int) (hA : Lists w lo hi a cs) (hI : Items w lo' hi' b ll) (hM : Ints w l3 h3 p m) (hv : costB cs ll m n = false) :
    Calls Try.prog 39 #[.slice a cs.length cap, .slice b ll.length cap', .slice p m.length capm, .int .i64 n] w fun e w' => e = .returned (.int .i64 (-1)) ∧ Below w.heap.size w w' := by
  cases h1 : cenB cs 4
  · go_enter Try.func39, Try.ntmps39
    go_wp2_with fail
    refine (validCentres_any _ _ _ _ _ _ hA).mono ?_
    rintro e w2 ⟨rfl, rfl⟩
    go_wp2_with fail
    go_ret
    exact ⟨rfl, Below.refl _ _⟩
  · have VQ := Lib.hid (validQuery_any w _ _ _ _ b p cap' capm 3 ll m hI hM)
    cases h2 : qryB ll 3 m
    · rw [h2] at VQ
      go_enter Try.func39, Try.ntmps39
      go_wp2_with fail
      refine (validCentres_any _ _ _ _ _ _ hA).mono ?_
      rintro e w2 ⟨rfl, rfl⟩
      go_wp2_with fail
      refine VQ.out.mono ?_
      rintro e w3 ⟨rfl, hb⟩
      have HB := Lib.hid hb
      clear hb
      go_wp2_with fail
      go_ret
      exact ⟨rfl, HB.out⟩
    · rw [h2] at VQ
      cases h3 : inR n 1 4
      · go_enter Try.func39, Try.ntmps39
        go_wp2_with fail
        refine (validCentres_any _ _ _ _ _ _ hA).mono ?_
        rintro e w2 ⟨rfl, rfl⟩
        go_wp2_with fail
        refine VQ.out.mono ?_
        rintro e w3 ⟨rfl, hb⟩
        have HB := Lib.hid hb
        clear hb
        go_wp2_with fail
        refine (inRange_any _ _ _ _).mono ?_
        rintro e w4 ⟨rfl, rfl⟩
        go_wp2_with fail
        go_ret
        exact ⟨rfl, HB.out⟩
      · (exfalso; unfold costB at hv; rw [h1, h2, h3] at hv; cases hv)
set_option maxHeartbeats 2000000 in
theorem specCost_yes (w : World) (lo hi lo' hi' l3 h3 : Nat) (a b p : Option Addr) (cap cap' capm n : Nat) (cs : List (List Int)) (ll : List It) (m : List Int) (hA : Lists w lo hi a cs) (hI : Items w lo' hi' b ll) (hM : Ints w l3 h3 p m) (hv : costB cs ll m (n : Int) = true) :
    Calls Try.prog 39 #[.slice a cs.length cap, .slice b ll.length cap', .slice p m.length capm, .int .i64 (n : Int)] w fun e w' => e = .returned (.int .i64 ((cs.length : Int) + ((prdI cs m n ll).length : Int))) ∧ Below w.heap.size w w' := by
  have h1 := costB_cen hv
  have hn := costB_num hv
  have hq := costB_qry hv
  have hs := qryB_store hq
  have HV := Lib.hid (csB_mk h1 hs)
  have hl4 := (cenB_len h1).2
  have hlc := (cenB_len h1).1
  have hl16 := storeB_len hs
  have VQ := Lib.hid (validQuery_any w _ _ _ _ b p cap' capm 3 ll m hI hM)
  rw [hq] at VQ
  have hr := inR_true hn
  have PR := Lib.hid fun w2 (hb : Below w.heap.size w w2) => probes_any w2 _ _ _ _ a p cap capm n cs m (hA.below hb) (hM.below hb) h1 (qryB_vec hq) (by omega) (by omega)
  have HLO := Lib.hid (prbL_bd cs m n)
  have HLL := Lib.hid (prbL_length cs m n)
  have HPR : Hid (prdI cs m n ll = selI cs (prbL cs m n) (ll.take ll.length)) := Lib.hid (by rw [List.take_length]; rfl)
  obtain ⟨L, eL⟩ : ∃ L, prbL cs m n = L := ⟨_, rfl⟩
  rw [eL] at PR HLO HLL HPR
  have HLS := Lib.hid fun j => selI_le cs L (ll.take j)
  have HAI := Lib.hid (And.intro hA.all hI.all)
  clear hq hv eL hs hI hM
  go_enter Try.func39, Try.ntmps39
  go_wp2_with fail
  refine (validCentres_any _ _ _ _ _ _ hA).mono ?_
  rintro e w2 ⟨rfl, rfl⟩
  go_wp2_with fail
  refine VQ.out.mono ?_
  rintro e w3 ⟨rfl, hb⟩
  have HB := Lib.hid hb
  clear hb
  go_wp2_with fail
  refine (inRange_any _ _ _ _).mono ?_
  rintro e w4 ⟨rfl, rfl⟩
  go_wp2_with fail
  refine (PR.out w3 HB.out).mono ?_
  rintro e w5 ⟨g, gc, rfl, ho1, hb1⟩
  have hll : L.length ≤ 4 := by have := HLL.out; omega
  have HG := Lib.hid (owns_mark ho1 (fun x hx => by have := HLO.out x hx; omega) (by omega)).2.1
  have HB5 : Hid (Below w.heap.size w w5) := Lib.hid (HB.out.trans (hb1.mono HB.out.size))
  clear ho1 hb1 hr
  go_wp2_with fail
  go_loopw [9, 11] (fun v i wr => ∃ j : Nat, j ≤ ll.length ∧ v = .int .i64 ((cs.length : Int) + ((selI cs L (ll.take j)).length : Int)) ∧ i = .int .i64 (j : Int) ∧ Hid (Drawn w5 wr)) (fun _ i _ => ll.length - (intOf i).toNat)
  case atStart => exact ⟨0, Nat.zero_le _, by simp [selI], rfl, Lib.hid (Drawn.refl _)⟩
  case round =>
    obtain ⟨j, hj, rfl, rfl, HD⟩ := hrel
    have HBW : Hid (Below w.heap.size w wr) := Lib.hid (HB5.out.trans HD.out.below)
    by_cases hlt : j < ll.length
    · obtain ⟨bb, off, rfl, _, _, aj, cj, c0, c1, c2, hx, hcj, hk1', hk2'⟩ := (HAI.out.2.below HBW.out).at_ hlt
      have VX := Lib.hid (storeB_vec (csB_store HV.out) hlt)
      have HS := Lib.hid (congrArg List.length (selI_succ cs L hlt))
      obtain ⟨x, ex⟩ : ∃ x, ll.getD j It.no = x := ⟨_, rfl⟩
      rw [ex] at c0 c1 c2 hx hcj hk1' hk2' VX HS
      have HN := Lib.hid (near_lt (ll := cs) x.pos hlc)
      have HR := Lib.hid (rowsOk_of (cenB_vecs (csB_cen HV.out)) VX.out (by omega))
      have C := Lib.hid (centreOf_any wr _ _ _ _ _ _ cap cj cs x.pos (HAI.out.1.below HBW.out) hx HR.out (vecB_coords VX.out) hlc)
      obtain ⟨q, eq⟩ : ∃ q, near cs x.pos = q := ⟨_, rfl⟩
      rw [eq] at C HS HN
      have hji : (j : Int) < ll.length := by omega
      have CT := Lib.hid fun w' (d : Drawn w5 w') => specIsIn w' _ _ g gc L (q : Int) (HG.out.drawn d)
      have hsl := HLS.out j
      have hsl2 : (ll.take j).length ≤ 16 := by rw [List.length_take]; omega
      obtain ⟨s, es⟩ : ∃ s, (selI cs L (ll.take j)).length = s := ⟨_, rfl⟩
      rw [List.length_append, es] at HS
      rw [es] at hsl ⊢
      have hs16 : s ≤ 16 := by omega
      clear ex eq hx hcj hk1' hk2' c0 c2 es hsl hsl2
      go_wp2_with fail
      refine C.out.mono ?_
      rintro e w6 ⟨rfl, hd⟩
      have HD6 := Lib.hid (HD.out.trans hd)
      clear hd c1
      go_wp2_with fail
      refine (CT.out w6 HD6.out).mono ?_
      rintro e w7 ⟨rfl, rfl⟩
      cases hc : L.contains (q : Int)
      · rw [hc] at HS
        clear hc
        have HS2 : Hid ((selI cs L (ll.take (j + 1))).length = s) := Lib.hid (by rw [HS.out]; simp)
        clear HS
        go_wp2_with fail
        refine (toInt_any _ _).mono ?_
        rintro e w8 ⟨rfl, rfl⟩
        go_wp2_with fail
        go_roundw
        case rel => exact ⟨j + 1, by omega, int_eq (by have h := HS2.out; omega), by go_num, HD6⟩
        case measure => simp [intOf]; omega
      · rw [hc] at HS
        clear hc
        have HS2 : Hid ((selI cs L (ll.take (j + 1))).length = s + 1) := Lib.hid (by rw [HS.out]; simp)
        clear HS
        go_wp2_with fail
        refine (toInt_any _ _).mono ?_
        rintro e w8 ⟨rfl, rfl⟩
        go_wp2_with fail
        go_roundw
        case rel => exact ⟨j + 1, by omega, int_eq (by have h := HS2.out; omega), by go_num, HD6⟩
        case measure => simp [intOf]; omega
    · have hje : j = ll.length := by omega
      subst hje
      go_wp2_with fail
      go_ret
      exact ⟨ret_int (by rw [HPR.out]), HBW.out⟩
theorem specCost (w : World) (lo hi lo' hi' l3 h3 : Nat) (a b p : Option Addr) (cap cap' capm : Nat) (n : Int) (cs : List (List Int)) (ll : List It) (m : List Int) (hA : Lists w lo hi a cs) (hI : Items w lo' hi' b ll) (hM : Ints w l3 h3 p m) :
    Calls Try.prog 39 #[.slice a cs.length cap, .slice b ll.length cap', .slice p m.length capm, .int .i64 n] w fun e w' => e = .returned (.int .i64 (costV cs ll m n)) ∧ Below w.heap.size w w' := by
  cases hv : costB cs ll m n
  · rw [costV_no hv]
    exact specCost_no w lo hi lo' hi' l3 h3 a b p cap cap' capm n cs ll m hA hI hM hv
  · rw [costV_yes hv]
    have hn := costB_num hv
    obtain ⟨q, rfl⟩ : ∃ q : Nat, n = (q : Int) := ⟨n.toNat, by omega⟩
    rw [Int.toNat_natCast]
    exact specCost_yes w lo hi lo' hi' l3 h3 a b p cap cap' capm q cs ll m hA hI hM hv
set_option maxHeartbeats 1000000 in
theorem specPN_no (w : World) (lo hi lo' hi' l3 h3 : Nat) (a b p : Option Addr) (cap cap' capm : Nat) (n k : Int) (cs : List (List Int)) (ll : List It) (m : List Int) (hA : Lists w lo hi a cs) (hI : Items w lo' hi' b ll) (hM : Ints w l3 h3 p m) (hv : pnB cs ll m n k = false) :
    Calls Try.prog 15 #[.slice a cs.length cap, .slice b ll.length cap', .slice p m.length capm, .int .i64 n, .int .i64 k] w (NewHits w []) := by
  cases h1 : cenB cs 4
  · go_enter Try.func15, Try.ntmps15
    go_wp2_with fail
    refine (validCentres_any _ _ _ _ _ _ hA).mono ?_
    rintro e w2 ⟨rfl, rfl⟩
    go_wp2_with fail
    go_ret
    exact NewHits.nil (Below.refl _ _)
  · have VQ := Lib.hid (validQuery_any w _ _ _ _ b p cap' capm 3 ll m hI hM)
    cases h2 : qryB ll 3 m
    · rw [h2] at VQ
      go_enter Try.func15, Try.ntmps15
      go_wp2_with fail
      refine (validCentres_any _ _ _ _ _ _ hA).mono ?_
      rintro e w2 ⟨rfl, rfl⟩
      go_wp2_with fail
      refine VQ.out.mono ?_
      rintro e w3 ⟨rfl, hb⟩
      have HB := Lib.hid hb
      clear hb
      go_wp2_with fail
      go_ret
      exact NewHits.nil HB.out
    · rw [h2] at VQ
      cases h3 : inR n 1 4
      · go_enter Try.func15, Try.ntmps15
        go_wp2_with fail
        refine (validCentres_any _ _ _ _ _ _ hA).mono ?_
        rintro e w2 ⟨rfl, rfl⟩
        go_wp2_with fail
        refine VQ.out.mono ?_
        rintro e w3 ⟨rfl, hb⟩
        have HB := Lib.hid hb
        clear hb
        go_wp2_with fail
        refine (inRange_any _ _ _ _).mono ?_
        rintro e w4 ⟨rfl, rfl⟩
        go_wp2_with fail
        go_ret
        exact NewHits.nil HB.out
      · skip
        have h4 : inR k 1 16 = false := by
          cases h4 : inR k 1 16
          · rfl
          · unfold pnB costB at hv; rw [h1, h2, h3, h4] at hv; cases hv
        go_enter Try.func15, Try.ntmps15
        go_wp2_with fail
        refine (validCentres_any _ _ _ _ _ _ hA).mono ?_
        rintro e w2 ⟨rfl, rfl⟩
        go_wp2_with fail
        refine VQ.out.mono ?_
        rintro e w3 ⟨rfl, hb⟩
        have HB := Lib.hid hb
        clear hb
        go_wp2_with fail
        refine (inRange_any _ _ _ _).mono ?_
        rintro e w4 ⟨rfl, rfl⟩
        go_wp2_with fail
        refine (inRange_any _ _ _ _).mono ?_
        rintro e w4 ⟨rfl, rfl⟩
        go_wp2_with fail
        go_ret
        exact NewHits.nil HB.out
set_option maxHeartbeats 2000000 in
theorem specPN_yes (w : World) (lo hi lo' hi' l3 h3 : Nat) (a b p : Option Addr) (cap cap' capm n k : Nat) (cs : List (List Int)) (ll : List It) (m : List Int) (hA : Lists w lo hi a cs) (hI : Items w lo' hi' b ll) (hM : Ints w l3 h3 p m) (hv : pnB cs ll m (n : Int) (k : Int) = true) :
    Calls Try.prog 15 #[.slice a cs.length cap, .slice b ll.length cap', .slice p m.length capm, .int .i64 (n : Int), .int .i64 (k : Int)] w (NewHits w (nrI 3 m (prdI cs m n ll) k)) := by
  have hc := pnB_cost hv
  have hk := pnB_num hv
  have h1 := costB_cen hc
  have hn := costB_num hc
  have hq := costB_qry hc
  have hs := qryB_store hq
  have HV := Lib.hid (csB_mk h1 hs)
  have hl4 := (cenB_len h1).2
  have hlc := (cenB_len h1).1
  have hl16 := storeB_len hs
  have VQ := Lib.hid (validQuery_any w _ _ _ _ b p cap' capm 3 ll m hI hM)
  rw [hq] at VQ
  have hr := inR_true hn
  have hr2 := inR_true hk
  have PR := Lib.hid fun w2 (hb : Below w.heap.size w w2) => probes_any w2 _ _ _ _ a p cap capm n cs m (hA.below hb) (hM.below hb) h1 (qryB_vec hq) (by omega) (by omega)
  have HLO := Lib.hid (prbL_bd cs m n)
  have HLL := Lib.hid (prbL_length cs m n)
  have HPR : Hid (prdI cs m n ll = selI cs (prbL cs m n) (ll.take ll.length)) := Lib.hid (by rw [List.take_length]; rfl)
  obtain ⟨L, eL⟩ : ∃ L, prbL cs m n = L := ⟨_, rfl⟩
  rw [eL] at PR HLO HLL HPR
  have hpl : (selI cs L (ll.take ll.length)).length ≤ 16 := by have := selI_le cs L (ll.take ll.length); rw [List.length_take] at this; omega
  have NI := Lib.hid fun (w2 : World) a4 c4 (hb : Below w.heap.size w w2) (hi4 : Items w2 0 w2.heap.size a4 (selI cs L (ll.take ll.length))) => specNearest_in w2 _ _ _ _ a4 p c4 capm k 3 _ m hi4 (hM.below hb) (by rw [List.take_length]; exact selI_vec hs) (qryB_vec hq) (by omega) (by omega) (by rw [List.take_length]; exact (selI_asc (storeB_AscI hs)).nodup)
  rw [HPR.out]
  have HAI := Lib.hid (And.intro hA.all hI.all)
  clear hq hv eL hs hI hM hc hk hn
  go_enter Try.func15, Try.ntmps15
  go_wp2_with fail
  refine (validCentres_any _ _ _ _ _ _ hA).mono ?_
  rintro e w2 ⟨rfl, rfl⟩
  go_wp2_with fail
  refine VQ.out.mono ?_
  rintro e w3 ⟨rfl, hb⟩
  have HB := Lib.hid hb
  clear hb
  go_wp2_with fail
  refine (inRange_any _ _ _ _).mono ?_
  rintro e w4 ⟨rfl, rfl⟩
  go_wp2_with fail
  refine (inRange_any _ _ _ _).mono ?_
  rintro e w4 ⟨rfl, rfl⟩
  go_wp2_with fail
  refine (PR.out w3 HB.out).mono ?_
  rintro e w1 ⟨g, gc, rfl, ho1, hb1⟩
  have hll : L.length ≤ 4 := by have := HLL.out; omega
  have HG := Lib.hid (owns_mark ho1 (fun x hx => by have := HLO.out x hx; omega) (by omega)).2.1
  have HB5 : Hid (Below w.heap.size w w1) := Lib.hid (HB.out.trans (hb1.mono HB.out.size))
  have hs1 := HB5.out.size
  have HE := Lib.hid (owns_empty w1 w1.heap.size 74 3 (Nat.le_refl _))
  have HIA := Lib.hid ((HAI.out.2.below HB5.out).all)
  clear ho1 hb1 hr hr2
  go_wp2_with fail
  go_loopw [12, 13] (fun v i wr => ∃ (j n : Nat) (vs : List Value), j ≤ ll.length ∧ n ≤ j ∧ i = .int .i64 (j : Int) ∧ Hid (wr.ownsRow w1.heap.size 74 3 v n vs ∧ RwsIR wr 0 w1.heap.size vs (selI cs L (ll.take j))) ∧ Hid (Below w1.heap.size w1 wr)) (fun _ i _ => ll.length - (intOf i).toNat)
  case atStart => exact ⟨0, 0, [], Nat.zero_le _, Nat.le_refl _, rfl, Lib.hid ⟨HE.out, rwsIR_nil _ _ _⟩, Lib.hid (below_alloc _ _)⟩
  case round =>
    obtain ⟨j, n, vs, hj, hnj, rfl, HO, HW⟩ := hrel
    have hsr := HW.out.size
    have HBW : Hid (Below w.heap.size w wr) := Lib.hid (HB5.out.trans (HW.out.mono hs1))
    by_cases hlt : j < ll.length
    · obtain ⟨bb, off, rfl, _, _, aj, cj, c0, c1, c2, hx, hcj, hk1', hk2'⟩ := (HIA.out.below HW.out).at_ hlt
      have VX := Lib.hid (storeB_vec (csB_store HV.out) hlt)
      have HS := Lib.hid (selI_succ cs L hlt)
      obtain ⟨x, ex⟩ : ∃ x, ll.getD j It.no = x := ⟨_, rfl⟩
      rw [ex] at c0 c1 c2 hx hcj hk1' hk2' VX HS
      have HITV : Hid (ItV wr 0 w1.heap.size x aj cj) := Lib.hid ⟨hx, hcj, hk1', hk2'⟩
      have HN := Lib.hid (near_lt (ll := cs) x.pos hlc)
      have HR := Lib.hid (rowsOk_of (cenB_vecs (csB_cen HV.out)) VX.out (by omega))
      have C := Lib.hid (centreOf_any wr _ _ _ _ _ _ cap cj cs x.pos (HAI.out.1.below HBW.out) hx HR.out (vecB_coords VX.out) hlc)
      obtain ⟨q, eq⟩ : ∃ q, near cs x.pos = q := ⟨_, rfl⟩
      rw [eq] at C HS HN
      have hq4 : q < 4 := by have := HN.out; omega
      have hji : (j : Int) < ll.length := by omega
      clear ex eq hx hcj hk1' hk2'
      go_wp2_with fail
      refine C.out.mono ?_
      rintro e w3 ⟨rfl, hd⟩
      have e0 := hd.cell c0
      have e1 := hd.cell c1
      have e2 := hd.cell c2
      have HX3 : Hid (Below wr.heap.size wr w3) := Lib.hid hd.below
      have hs3 := HX3.out.size
      have HO3 := Lib.hid (owns_upd HO.out.1 (Upd.of_below (lo := 0) (hi := 0) HX3.out) (by omega))
      have CT := Lib.hid (specIsIn w3 _ _ g gc L (q : Int) (HG.out.below (HW.out.trans (HX3.out.mono hsr))))
      have HSEL := HS
      cases hc : L.contains (q : Int)
      · rw [hc] at CT HSEL
        clear hd c0 c1 c2 hc
        go_wp2_with fail
        refine CT.out.mono ?_
        rintro e w4 ⟨rfl, rfl⟩
        go_wp2_with fail
        go_roundw
        case rel => exact ⟨j + 1, n, vs, by omega, by omega, by go_num, Lib.hid ⟨HO3.out, by rw [HSEL.out, if_neg (by simp), List.append_nil]; exact HO.out.2.upd (Upd.of_below (lo := 0) (hi := 0) HX3.out) (by omega)⟩, Lib.hid (HW.out.trans (HX3.out.mono hsr))⟩
        case measure => simp [intOf]; omega
      · rw [hc] at CT HSEL
        clear hd c0 c1 c2 hc
        go_wp2_with fail
        refine CT.out.mono ?_
        rintro e w4 ⟨rfl, rfl⟩
        go_wp2_with (at_builtin; refine append1 rfl _ _ 24 rfl w1.heap.size 74 Try.underlying24 infoItem rfl (by omega) (by omega) _ n vs rfl HO3.out (itCells x aj cj) rfl rfl (itCells_one x aj cj) (by omega) (by omega) ?_; intro v' w6 hown6 hg6; have HO6 := Lib.hid hown6; have HG6 := Lib.hid hg6; clear hown6 hg6)
        have HX6 : Hid (Below w1.heap.size w1 w6) := Lib.hid ((HW.out.trans (HX3.out.mono hsr)).grown HG6.out (by omega) (owns_block HO3.out))
        have U6 : Hid (Upd w1.heap.size w6.heap.size wr w6) := Lib.hid ⟨HG6.out.os.trans HX3.out.os, HG6.out.tape.trans HX3.out.tape, HG6.out.output.trans HX3.out.output, Nat.le_trans hs3 HG6.out.size, fun z hz hd => by
          rcases hd with hd | hd
          · rw [HG6.out.block z (by omega) (fun e => by have := owns_block HO3.out z e.symm; omega)]
            exact HX3.out.block z hz
          · have := HG6.out.size; omega⟩
        go_roundw
        case rel => exact ⟨j + 1, n + 1, _, by omega, by omega, by go_num, Lib.hid ⟨HO6.out, by rw [HSEL.out, if_pos (by simp)]; exact (HO.out.2.upd U6.out (by omega)).snoc (HITV.out.upd U6.out (by omega))⟩, HX6⟩
        case measure => simp [intOf]; omega
    · have hje : j = ll.length := by omega
      subst hje
      obtain ⟨hn, a6, c6, hv6, hi6, hc6⟩ := items_of_vals HO.out.1 (by have := HO.out.2; exact ⟨this.1, fun j hj => by obtain ⟨aj, cj, q1, q2, q3, q4⟩ := this.2 j hj; exact ⟨aj, cj, q1, q2, q3, q4.wide (Nat.le_refl _) hsr⟩⟩) (by omega) (Nat.zero_le _) (Nat.le_refl _)
      subst hv6
      have N6 := Lib.hid (NI.out wr a6 c6 HBW.out hi6)
      clear hi6 hc6
      obtain ⟨Q, eQ⟩ : ∃ Q, selI cs L (ll.take ll.length) = Q := ⟨_, rfl⟩
      have HEQ := Lib.hid eQ
      rw [eQ] at N6 ⊢
      clear eQ HO hpl hn HPR
      go_wp2_with fail
      refine N6.out.mono ?_
      rintro e w5 ⟨a5, c5, rfl, h5⟩
      have H5 := Lib.hid h5
      clear h5
      go_wp2_with fail
      go_ret
      rw [HEQ.out]
      exact NewHits.later ⟨a5, c5, rfl, H5.out⟩ HBW.out
theorem specPN (w : World) (lo hi lo' hi' l3 h3 : Nat) (a b p : Option Addr) (cap cap' capm : Nat) (n k : Int) (cs : List (List Int)) (ll : List It) (m : List Int) (hA : Lists w lo hi a cs) (hI : Items w lo' hi' b ll) (hM : Ints w l3 h3 p m) :
    Calls Try.prog 15 #[.slice a cs.length cap, .slice b ll.length cap', .slice p m.length capm, .int .i64 n, .int .i64 k] w (NewHits w (pnV cs ll m n k)) := by
  cases hv : pnB cs ll m n k
  · rw [pnV_no hv]
    exact specPN_no w lo hi lo' hi' l3 h3 a b p cap cap' capm n k cs ll m hA hI hM hv
  · rw [pnV_yes hv]
    have hn := costB_num (pnB_cost hv)
    have hk := pnB_num hv
    obtain ⟨q, rfl⟩ : ∃ q : Nat, n = (q : Int) := ⟨n.toNat, by omega⟩
    obtain ⟨z, rfl⟩ : ∃ z : Nat, k = (z : Int) := ⟨k.toNat, by omega⟩
    rw [Int.toNat_natCast, Int.toNat_natCast]
    exact specPN_yes w lo hi lo' hi' l3 h3 a b p cap cap' capm q z cs ll m hA hI hM hv
end Go.Proofs.Ytmpoljhdcgdnnaa
