/-
  The walks of MoveCentres, the program's and the reference's.
-/
import Derived.Test.YtfgjmfnbpbanmaaMeanWalks
import Derived.Test.YtfgjmfnbpbanmaaDrawVec
namespace Go.Proofs.Ytfgjmfnbpbanmaa
open Go.RowKit
set_option linter.unusedVariables false

theorem lists_one {w : World} {lo hi : Nat} {a : Option Addr} {c : Nat} {x : List Int} (h : Ints w lo hi a x) : Lists (w.alloc (.cells #[.slice a x.length c] 37)) 0 (hi + w.heap.size + 1) (some ⟨w.heap.size, 0, none⟩) [x] := by
  refine ⟨fun _ => ⟨w.heap.size, 0, rfl, Nat.zero_le _, by omega, fun j hj => ⟨a, c, ?_, ?_⟩⟩, by simp⟩
  · have hj0 : j = 0 := by simp at hj; omega
    subst hj0
    rw [cell_new]; rfl
  · have hj0 : j = 0 := by simp at hj; omega
    subst hj0
    exact (h.below (below_alloc _ _)).wide (Nat.zero_le _) (by omega)
theorem movC_len {cs : List (List Int)} {ll : List It} (h : csB cs ll = true) {c : Nat} (hc : c < cs.length) : (movC cs ll c).length = 4 := by
  have := vecB_len (movC_vec h hc); omega
set_option maxHeartbeats 2000000 in
theorem implMoveIn (w : World) (lo hi lo' hi' : Nat) (a b : Option Addr) (cap cap' : Nat) (cs : List (List Int)) (ll : List It) (hA : Lists w lo hi a cs) (hI : Items w lo' hi' b ll) (hv : csB cs ll = true) :
    Calls Try.prog 39 #[.slice a cs.length cap, .slice b ll.length cap'] w (NewLists w (movT cs ll cs.length)) := by
  have HE := Lib.hid (owns_empty w w.heap.size 37 1 (Nat.le_refl _))
  have HV := Lib.hid hv
  have hl16 := storeB_len (csB_store hv)
  have hlc := (cenB_len (csB_cen hv)).1
  have hlc4 := (cenB_len (csB_cen hv)).2
  clear hv
  go_enter Try.func39, Try.ntmps39
  go_wp2_with fail
  go_loopw [5, 14] (fun v i wr => ∃ (c : Nat) (vs : List Value), c ≤ cs.length ∧ i = .int .i64 (c : Int) ∧ Hid (wr.ownsRow w.heap.size 37 1 v c vs) ∧ Hid (RowsO wr w.heap.size wr.heap.size vs (movT cs ll c)) ∧ Hid (Below w.heap.size w wr)) (fun _ i _ => cs.length - (intOf i).toNat)
  case atStart => exact ⟨0, [], Nat.zero_le _, rfl, HE.out, rowsO_nil _ _ _, below_alloc _ _⟩
  case round =>
    rename World => wo
    obtain ⟨c, vs, hc, rfl, HO, HR, HW⟩ := hrel
    by_cases hct : c < cs.length
    · have hsw := HW.out.size
      have HE2 := Lib.hid (owns_empty wo wo.heap.size 37 1 (Nat.le_refl _))
      have HSC := Lib.hid (movT_snoc cs ll c)
      have HRL := Lib.hid (movC_len HV.out hct)
      obtain ⟨pc, oc, ac, cc, rfl, _, _, hcc0, hcx⟩ := hA.at_ hct
      have HVC := Lib.hid (cenB_at (csB_cen HV.out) hct)
      have HMN := Lib.hid (fun h => movC_nil (cs := cs) (ll := ll) (c := c) h)
      have HMM := Lib.hid (fun h => movC_mean (cs := cs) (ll := ll) (c := c) h)
      have HOV := Lib.hid (ownP_vecs (cs := cs) (ll := ll) (c := c) (csB_store HV.out) (Nat.le_refl _))
      have HOL := Lib.hid (ownP_len cs ll c ll.length)
      obtain ⟨y, ey⟩ : ∃ y, cs.getD c [] = y := ⟨_, rfl⟩
      rw [ey] at hcc0 hcx HVC HMN
      have hy4 : y.length = 4 := by have := vecB_len HVC.out; omega
      have hcc := cell_later HW.out hcc0
      have HCX := Lib.hid hcx
      have HY4 := Lib.hid hy4
      rw [hy4] at hcc
      clear ey hcc0 hcx hy4
      go_wp2_with fail
      clear hcc
      go_loopw [8, 22] (fun v i wr => ∃ (k : Nat) (us : List Value), k ≤ ll.length ∧ i = .int .i64 (k : Int) ∧ Hid (wr.ownsRow wo.heap.size 37 1 v (ownP cs ll c k).length us) ∧ Hid (RwsR w lo' hi' us (ownP cs ll c k)) ∧ Hid (Below wo.heap.size wo wr)) (fun _ i _ => ll.length - (intOf i).toNat)
      case atStart => exact ⟨0, [], Nat.zero_le _, rfl, HE2.out, ⟨rfl, fun j hj => absurd hj (Nat.not_lt_zero _)⟩, below_alloc _ _⟩
      case round =>
        obtain ⟨k, us, hk, rfl, HP, HU, HX⟩ := hrel
        have hb0 : Hid (Below w.heap.size w wr) := Lib.hid (HW.out.trans (HX.out.mono hsw))
        have hsx := HX.out.size
        by_cases hlt : k < ll.length
        · obtain ⟨bb, off, rfl, _, hbh, aj, cj, e0, e1, e2, hx, hcj, hk1, hk2⟩ := hI.at_ hlt
          have c0 := cell_later hb0.out e0
          have c1 := cell_later hb0.out e1
          have c2 := cell_later hb0.out e2
          have VX := Lib.hid (storeB_vec (csB_store HV.out) hlt)
          have HN := Lib.hid (asg_lt (csB_cen HV.out) ll k)
          have HA : Hid (near cs (ll.getD k It.no).pos = asg cs ll k) := Lib.hid rfl
          have HYY := Lib.hid (fun h => ownP_yes (cs := cs) (ll := ll) (c := c) (k := k) h)
          have HZ := Lib.hid (fun h => ownP_not (cs := cs) (ll := ll) (c := c) (k := k) h)
          have HKL := Lib.hid (ownP_len cs ll c k)
          obtain ⟨x, ex⟩ : ∃ x, ll.getD k It.no = x := ⟨_, rfl⟩
          rw [ex] at c0 c1 c2 hx hcj hk1 hk2 VX HA HYY
          clear ex e0 e1 e2
          have hb := below_alloc wr (.cells #[.int .i64 x.key, .slice aj x.pos.length cj, .int .i64 x.tags] 39)
          obtain ⟨d0, d1, d2⟩ := cells3_new wr (.int .i64 x.key) (.slice aj x.pos.length cj) (.int .i64 x.tags) 39
          have HR0 := Lib.hid (rowsOk_of (cenB_vecs (csB_cen HV.out)) VX.out (by omega))
          have C := Lib.hid (implCentreOfIn _ _ _ _ _ _ _ cap cj cs x.pos ((hA.below hb0.out).below hb) ((hx.below hb0.out).below hb) HR0.out (vecB_coords VX.out) hlc)
          rw [HA.out] at C
          obtain ⟨n, hn⟩ : ∃ n, asg cs ll k = n := ⟨_, rfl⟩
          rw [hn] at HN C HYY HZ
          have HBX := Lib.hid hb
          have HXX := Lib.hid hx
          obtain ⟨row, hrow⟩ : ∃ row, ownP cs ll c k = row := ⟨_, rfl⟩
          rw [hrow] at HYY HZ HP HKL HU
          have hkl := HKL.out
          clear hn hrow hcj hk1 hk2 HA hb hx
          go_wp2_with fail
          refine C.out.mono ?_
          rintro e w3 ⟨rfl, hd⟩
          have f1 := hd.cell d1
          have HX3 : Hid (Below wo.heap.size wo w3) := Lib.hid (HX.out.trans ((HBX.out.trans hd.below).mono hsx))
          have HP3 := Lib.hid (owns_upd HP.out (Upd.of_below (lo := 0) (hi := 0) (HBX.out.trans hd.below)) (by omega))
          have hs3 := HX3.out.size
          clear hd C c0 c1 c2 d0 d1 d2 HBX
          by_cases hnc : n = c
          · have HY2 := Lib.hid (HYY.out hnc)
            subst hnc
            go_wp2_with (at_builtin; refine append1 rfl _ _ 22 rfl wo.heap.size 37 Try.underlying22 infoInts rfl (by omega) (by omega) _ row.length us rfl HP3.out [.slice aj x.pos.length cj] rfl rfl (by intro u hu; simp at hu; subst hu; rfl) (by omega) (by omega) ?_; intro v' w6 hown6 hg6; have HO6 := Lib.hid hown6; have HG6 := Lib.hid hg6; clear hown6 hg6)
            go_roundw
            case rel => exact ⟨k + 1, _, by omega, by go_num, by rw [HY2.out, List.length_append]; exact HO6.out, by rw [HY2.out]; exact HU.out.snoc HXX.out, HX3.out.grown HG6.out (by omega) (owns_block HP3.out)⟩
            case measure => simp [intOf]; omega
          · have HZ2 := Lib.hid (HZ.out hnc)
            have hnb : ((n : Int) == (c : Int)) = false := by rw [beq_eq_false_iff_ne]; omega
            clear hnc
            go_wp2_with fail
            go_roundw
            case rel => exact ⟨k + 1, us, by omega, by go_num, by rw [HZ2.out]; exact HP3.out, by rw [HZ2.out]; exact HU.out, HX3.out⟩
            case measure => simp [intOf]; omega
        · have hke : k = ll.length := by omega
          subst hke
          by_cases hnil : ownP cs ll c ll.length = []
          · have HM2 := Lib.hid (HMN.out hnil)
            have hl0 : (((ownP cs ll c ll.length).length : Int) == 0) = true := by rw [hnil]; rfl
            obtain ⟨ao, co, rfl, hco⟩ := owns_form HP.out
            have hyw := HCX.out.below hb0.out
            have MM := Lib.hid (implMeanOf (wr.alloc (.cells #[.slice ac y.length cc] 37)) _ _ _ 1 [y] (lists_one hyw) (by unfold vecsB; simp [HVC.out]) (by simp) (by simp))
            rw [HY4.out, show [y].length = 1 from rfl, meanT_one HVC.out, ← HM2.out] at MM
            have HXA : Hid (Below wo.heap.size wo (wr.alloc (.cells #[.slice ac 4 cc] 37))) := Lib.hid (HX.out.trans ((below_alloc _ _).mono hsx))
            have hsa : wr.heap.size ≤ (wr.alloc (.cells #[.slice ac 4 cc] 37)).heap.size := by simp
            obtain ⟨wa, hwa⟩ : ∃ wa, wr.alloc (.cells #[.slice ac 4 cc] 37) = wa := ⟨_, rfl⟩
            clear hnil hco hyw
            go_wp2_with fail
            rw [hwa] at MM HXA hsa
            refine MM.out.mono ?_
            rintro e w5 ⟨ar, cr, rfl, hown5, hb5⟩
            have HX5 : Hid (Below wo.heap.size wo w5) := Lib.hid (HXA.out.trans (hb5.mono (by omega)))
            have HP5 := Lib.hid (owns_dn hown5 (show wo.heap.size ≤ wa.heap.size by omega))
            clear hown5 hb5 MM hwa
            rw [HRL.out]
            obtain ⟨row, hrow⟩ : ∃ row, movC cs ll c = row := ⟨_, rfl⟩
            rw [hrow] at HSC HRL HP5
            clear hrow
            have hrl := HRL.out
            have HO5 := Lib.hid (owns_upd HO.out (Upd.of_below (lo := 0) (hi := 0) HX5.out) (by omega))
            have HR5 := Lib.hid (HR.out.below HX5.out)
            have hs5 := HX5.out.size
            go_wp2_with (at_builtin; refine append1 rfl _ _ 22 rfl w.heap.size 37 Try.underlying22 infoInts rfl (by omega) (by omega) _ c vs rfl HO5.out [.slice ar 4 cr] rfl rfl (by intro u hu; simp at hu; subst hu; rfl) (by omega) (by omega) ?_; intro v' w6 hown6 hg6; have HO6 := Lib.hid hown6; have HG6 := Lib.hid hg6; clear hown6 hg6)
            have hP5 : w5.ownsRow wo.heap.size 3 1 (.slice ar 4 cr) row.length (row.map (Value.int .i64)) := by
              have h := HP5.out
              rw [hrl] at h ⊢
              exact h
            have hP6 := hP5.kept HG6.out (owns_ne hP5 HO5.out (by decide))
            have hR6 := HR5.out.grown HO5.out (by decide) HG6.out
            have hs6 := HG6.out.size
            have hR7 := hR6.snoc hP6 hsw (fun j hj => (hP6.lt j hj).2) (by omega)
            rw [← HSC.out] at hR7
            have HR7 := Lib.hid hR7
            have HB7 : Hid (Below w.heap.size w w6) := Lib.hid ((HW.out.trans (HX5.out.mono hsw)).grown HG6.out (by omega) (owns_block HO5.out))
            clear hR7 hR6 hP6 hP5
            go_roundw
            case rel => exact ⟨c + 1, _, by omega, by go_num, HO6.out, HR7.out, HB7.out⟩
            case measure => simp [intOf]; omega
          · have HM2 := Lib.hid (HMM.out hnil)
            have hl0 : (((ownP cs ll c ll.length).length : Int) == 0) = false := by
              rw [beq_eq_false_iff_ne]
              intro h0
              exact hnil (List.eq_nil_of_length_eq_zero (by omega))
            have hp1 : 1 ≤ (ownP cs ll c ll.length).length := by
              rcases Nat.eq_zero_or_pos (ownP cs ll c ll.length).length with h0 | h0
              · exact absurd (List.eq_nil_of_length_eq_zero h0) hnil
              · exact h0
            have hol := HOL.out
            obtain ⟨ao, co, hvo, hls⟩ := lists_of_vals (lo := 0) (hi := hi' + wr.heap.size) HP.out ((HU.out.upd (Upd.of_below (lo := 0) (hi := 0) hb0.out) (by omega)).wide (Nat.zero_le _) (by omega)) (by omega) (Nat.zero_le _) (by omega)
            subst hvo
            have MM := Lib.hid (implMeanOf wr _ _ _ co _ hls HOV.out hp1 (by omega))
            rw [← HM2.out] at MM
            obtain ⟨rw0, hrw0⟩ : ∃ r, (ownP cs ll c ll.length).length = r := ⟨_, rfl⟩
            rw [hrw0] at MM hl0 ⊢
            clear hnil hls hp1 hol hrw0
            go_wp2_with fail
            refine MM.out.mono ?_
            rintro e w5 ⟨ar, cr, rfl, hown5, hb5⟩
            have HX5 : Hid (Below wo.heap.size wo w5) := Lib.hid (HX.out.trans (hb5.mono (by omega)))
            have HP5 := Lib.hid (owns_dn hown5 (show wo.heap.size ≤ wr.heap.size by omega))
            clear hown5 hb5 MM
            rw [HRL.out]
            obtain ⟨row, hrow⟩ : ∃ row, movC cs ll c = row := ⟨_, rfl⟩
            rw [hrow] at HSC HRL HP5
            clear hrow
            have hrl := HRL.out
            have HO5 := Lib.hid (owns_upd HO.out (Upd.of_below (lo := 0) (hi := 0) HX5.out) (by omega))
            have HR5 := Lib.hid (HR.out.below HX5.out)
            have hs5 := HX5.out.size
            go_wp2_with (at_builtin; refine append1 rfl _ _ 22 rfl w.heap.size 37 Try.underlying22 infoInts rfl (by omega) (by omega) _ c vs rfl HO5.out [.slice ar 4 cr] rfl rfl (by intro u hu; simp at hu; subst hu; rfl) (by omega) (by omega) ?_; intro v' w6 hown6 hg6; have HO6 := Lib.hid hown6; have HG6 := Lib.hid hg6; clear hown6 hg6)
            have hP5 : w5.ownsRow wo.heap.size 3 1 (.slice ar 4 cr) row.length (row.map (Value.int .i64)) := by
              have h := HP5.out
              rw [hrl] at h ⊢
              exact h
            have hP6 := hP5.kept HG6.out (owns_ne hP5 HO5.out (by decide))
            have hR6 := HR5.out.grown HO5.out (by decide) HG6.out
            have hs6 := HG6.out.size
            have hR7 := hR6.snoc hP6 hsw (fun j hj => (hP6.lt j hj).2) (by omega)
            rw [← HSC.out] at hR7
            have HR7 := Lib.hid hR7
            have HB7 : Hid (Below w.heap.size w w6) := Lib.hid ((HW.out.trans (HX5.out.mono hsw)).grown HG6.out (by omega) (owns_block HO5.out))
            clear hR7 hR6 hP6 hP5
            go_roundw
            case rel => exact ⟨c + 1, _, by omega, by go_num, HO6.out, HR7.out, HB7.out⟩
            case measure => simp [intOf]; omega
    · have hk' : c = cs.length := by omega
      subst hk'
      go_wp2_with fail
      go_ret
      exact NewLists.mk (movT_length _ _ _) HO.out HR.out HW.out
set_option maxHeartbeats 2000000 in
theorem specMoveIn (w : World) (lo hi lo' hi' : Nat) (a b : Option Addr) (cap cap' : Nat) (cs : List (List Int)) (ll : List It) (hA : Lists w lo hi a cs) (hI : Items w lo' hi' b ll) (hv : csB cs ll = true) :
    Calls Try.prog 34 #[.slice a cs.length cap, .slice b ll.length cap'] w (NewLists w (movT cs ll cs.length)) := by
  have HE := Lib.hid (owns_empty w w.heap.size 37 1 (Nat.le_refl _))
  have HV := Lib.hid hv
  have hl16 := storeB_len (csB_store hv)
  have hlc := (cenB_len (csB_cen hv)).1
  have hlc4 := (cenB_len (csB_cen hv)).2
  clear hv
  go_enter Try.func34, Try.ntmps34
  go_wp2_with fail
  go_loopw [5, 6] (fun v i wr => ∃ (c : Nat) (vs : List Value), c ≤ cs.length ∧ i = .int .i64 (c : Int) ∧ Hid (wr.ownsRow w.heap.size 37 1 v c vs) ∧ Hid (RowsO wr w.heap.size wr.heap.size vs (movT cs ll c)) ∧ Hid (Below w.heap.size w wr)) (fun _ i _ => cs.length - (intOf i).toNat)
  case atStart => exact ⟨0, [], Nat.zero_le _, rfl, HE.out, rowsO_nil _ _ _, below_alloc _ _⟩
  case round =>
    rename World => wo
    obtain ⟨c, vs, hc, rfl, HO, HR, HW⟩ := hrel
    by_cases hct : c < cs.length
    · have hsw := HW.out.size
      have HE2 := Lib.hid (owns_empty wo wo.heap.size 37 1 (Nat.le_refl _))
      have HSC := Lib.hid (movT_snoc cs ll c)
      have HRL := Lib.hid (movC_len HV.out hct)
      have HMN := Lib.hid (fun h => movC_nil (cs := cs) (ll := ll) (c := c) h)
      have HMM := Lib.hid (fun h => movC_mean (cs := cs) (ll := ll) (c := c) h)
      have HOV := Lib.hid (ownP_vecs (cs := cs) (ll := ll) (c := c) (csB_store HV.out) (Nat.le_refl _))
      have HOL := Lib.hid (ownP_len cs ll c ll.length)
      go_wp2_with fail
      go_loopw [7, 8] (fun v i wr => ∃ (k : Nat) (us : List Value), k ≤ ll.length ∧ i = .int .i64 (k : Int) ∧ Hid (wr.ownsRow wo.heap.size 37 1 v (ownP cs ll c k).length us) ∧ Hid (RwsR w lo' hi' us (ownP cs ll c k)) ∧ Hid (Below wo.heap.size wo wr)) (fun _ i _ => ll.length - (intOf i).toNat)
      case atStart => exact ⟨0, [], Nat.zero_le _, rfl, HE2.out, ⟨rfl, fun j hj => absurd hj (Nat.not_lt_zero _)⟩, below_alloc _ _⟩
      case round =>
        obtain ⟨k, us, hk, rfl, HP, HU, HX⟩ := hrel
        have hb0 : Hid (Below w.heap.size w wr) := Lib.hid (HW.out.trans (HX.out.mono hsw))
        have hsx := HX.out.size
        by_cases hlt : k < ll.length
        · obtain ⟨bb, off, rfl, _, hbh, aj, cj, e0, e1, e2, hx, hcj, hk1, hk2⟩ := hI.at_ hlt
          have c1 := cell_later hb0.out e1
          have VX := Lib.hid (storeB_vec (csB_store HV.out) hlt)
          have HN := Lib.hid (asg_lt (csB_cen HV.out) ll k)
          have HA : Hid (near cs (ll.getD k It.no).pos = asg cs ll k) := Lib.hid rfl
          have HYY := Lib.hid (fun h => ownP_yes (cs := cs) (ll := ll) (c := c) (k := k) h)
          have HZ := Lib.hid (fun h => ownP_not (cs := cs) (ll := ll) (c := c) (k := k) h)
          have HKL := Lib.hid (ownP_len cs ll c k)
          obtain ⟨x, ex⟩ : ∃ x, ll.getD k It.no = x := ⟨_, rfl⟩
          rw [ex] at c1 hx hcj hk1 hk2 VX HA HYY
          clear ex e0 e1 e2
          have HR0 := Lib.hid (rowsOk_of (cenB_vecs (csB_cen HV.out)) VX.out (by omega))
          have C := Lib.hid (centreOf_any _ _ _ _ _ _ _ cap cj cs x.pos (hA.below hb0.out) (hx.below hb0.out) HR0.out (vecB_coords VX.out) hlc)
          rw [HA.out] at C
          obtain ⟨n, hn⟩ : ∃ n, asg cs ll k = n := ⟨_, rfl⟩
          rw [hn] at HN C HYY HZ
          have HXX := Lib.hid hx
          obtain ⟨row, hrow⟩ : ∃ row, ownP cs ll c k = row := ⟨_, rfl⟩
          rw [hrow] at HYY HZ HP HKL HU
          have hkl := HKL.out
          clear hn hrow hcj hk1 hk2 HA hx
          go_wp2_with fail
          refine C.out.mono ?_
          rintro e w3 ⟨rfl, hd⟩
          have f1 := hd.cell c1
          have HX3 : Hid (Below wo.heap.size wo w3) := Lib.hid (HX.out.trans hd.below)
          have HP3 := Lib.hid (owns_upd HP.out (hd.upd (lo := 0) (hi := 0)) (by omega))
          have hs3 := HX3.out.size
          clear hd C c1
          by_cases hnc : n = c
          · have HY2 := Lib.hid (HYY.out hnc)
            subst hnc
            go_wp2_with (at_builtin; refine append1 rfl _ _ 22 rfl wo.heap.size 37 Try.underlying22 infoInts rfl (by omega) (by omega) _ row.length us rfl HP3.out [.slice aj x.pos.length cj] rfl rfl (by intro u hu; simp at hu; subst hu; rfl) (by omega) (by omega) ?_; intro v' w6 hown6 hg6; have HO6 := Lib.hid hown6; have HG6 := Lib.hid hg6; clear hown6 hg6)
            go_roundw
            case rel => exact ⟨k + 1, _, by omega, by go_num, by rw [HY2.out, List.length_append]; exact HO6.out, by rw [HY2.out]; exact HU.out.snoc HXX.out, HX3.out.grown HG6.out (by omega) (owns_block HP3.out)⟩
            case measure => simp [intOf]; omega
          · have HZ2 := Lib.hid (HZ.out hnc)
            have hnb : ((n : Int) == (c : Int)) = false := by rw [beq_eq_false_iff_ne]; omega
            clear hnc
            go_wp2_with fail
            go_roundw
            case rel => exact ⟨k + 1, us, by omega, by go_num, by rw [HZ2.out]; exact HP3.out, by rw [HZ2.out]; exact HU.out, HX3.out⟩
            case measure => simp [intOf]; omega
        · have hke : k = ll.length := by omega
          subst hke
          by_cases hnil : ownP cs ll c ll.length = []
          · have HM2 := Lib.hid (HMN.out hnil)
            have hl0 : (((ownP cs ll c ll.length).length : Int) == 0) = true := by rw [hnil]; rfl
            obtain ⟨ao, co, rfl, hco⟩ := owns_form HP.out
            have hAw := hA.below hb0.out
            obtain ⟨pc, oc, ac, cc, rfl, _, _, hcc, hcx⟩ := hAw.at_ hct
            rw [← HM2.out] at hcc hcx
            have MM := Lib.hid (copyInts_any wr _ _ _ cc _ hcx (by rw [HRL.out]; omega) (by rw [HRL.out]; omega))
            rw [HRL.out] at hcc MM
            have hci : (c : Int) < cs.length := by omega
            clear hnil hco hAw hcx
            go_wp2_with fail
            refine MM.out.mono ?_
            rintro e w5 ⟨ar, cr, rfl, _, _, hown5, hb5⟩
            have HX5 : Hid (Below wo.heap.size wo w5) := Lib.hid (HX.out.trans (hb5.mono (by omega)))
            have HP5 := Lib.hid (owns_dn hown5 (show wo.heap.size ≤ wr.heap.size by omega))
            clear hown5 hb5 MM hcc
            rw [HRL.out]
            obtain ⟨row, hrow⟩ : ∃ row, movC cs ll c = row := ⟨_, rfl⟩
            rw [hrow] at HSC HRL HP5
            clear hrow
            have hrl := HRL.out
            have HO5 := Lib.hid (owns_upd HO.out (Upd.of_below (lo := 0) (hi := 0) HX5.out) (by omega))
            have HR5 := Lib.hid (HR.out.below HX5.out)
            have hs5 := HX5.out.size
            go_wp2_with (at_builtin; refine append1 rfl _ _ 22 rfl w.heap.size 37 Try.underlying22 infoInts rfl (by omega) (by omega) _ c vs rfl HO5.out [.slice (some ⟨ar, 0, none⟩) 4 cr] rfl rfl (by intro u hu; simp at hu; subst hu; rfl) (by omega) (by omega) ?_; intro v' w6 hown6 hg6; have HO6 := Lib.hid hown6; have HG6 := Lib.hid hg6; clear hown6 hg6)
            have hP5 : w5.ownsRow wo.heap.size 3 1 (.slice (some ⟨ar, 0, none⟩) 4 cr) row.length (row.map (Value.int .i64)) := by
              have h := HP5.out
              rw [hrl] at h ⊢
              exact h
            have hP6 := hP5.kept HG6.out (owns_ne hP5 HO5.out (by decide))
            have hR6 := HR5.out.grown HO5.out (by decide) HG6.out
            have hs6 := HG6.out.size
            have hR7 := hR6.snoc hP6 hsw (fun j hj => (hP6.lt j hj).2) (by omega)
            rw [← HSC.out] at hR7
            have HR7 := Lib.hid hR7
            have HB7 : Hid (Below w.heap.size w w6) := Lib.hid ((HW.out.trans (HX5.out.mono hsw)).grown HG6.out (by omega) (owns_block HO5.out))
            clear hR7 hR6 hP6 hP5
            go_roundw
            case rel => exact ⟨c + 1, _, by omega, by go_num, HO6.out, HR7.out, HB7.out⟩
            case measure => simp [intOf]; omega
          · have HM2 := Lib.hid (HMM.out hnil)
            have hl0 : (((ownP cs ll c ll.length).length : Int) == 0) = false := by
              rw [beq_eq_false_iff_ne]
              intro h0
              exact hnil (List.eq_nil_of_length_eq_zero (by omega))
            have hp1 : 1 ≤ (ownP cs ll c ll.length).length := by
              rcases Nat.eq_zero_or_pos (ownP cs ll c ll.length).length with h0 | h0
              · exact absurd (List.eq_nil_of_length_eq_zero h0) hnil
              · exact h0
            have hol := HOL.out
            obtain ⟨ao, co, hvo, hls⟩ := lists_of_vals (lo := 0) (hi := hi' + wr.heap.size) HP.out ((HU.out.upd (Upd.of_below (lo := 0) (hi := 0) hb0.out) (by omega)).wide (Nat.zero_le _) (by omega)) (by omega) (Nat.zero_le _) (by omega)
            subst hvo
            have MM := Lib.hid (specMean wr _ _ _ co _ hls HOV.out hp1 (by omega))
            rw [← HM2.out] at MM
            obtain ⟨rw0, hrw0⟩ : ∃ r, (ownP cs ll c ll.length).length = r := ⟨_, rfl⟩
            rw [hrw0] at MM hl0 ⊢
            clear hnil hls hp1 hol hrw0
            go_wp2_with fail
            refine MM.out.mono ?_
            rintro e w5 ⟨ar, cr, rfl, hown5, hb5⟩
            have HX5 : Hid (Below wo.heap.size wo w5) := Lib.hid (HX.out.trans (hb5.mono (by omega)))
            have HP5 := Lib.hid (owns_dn hown5 (show wo.heap.size ≤ wr.heap.size by omega))
            clear hown5 hb5 MM
            rw [HRL.out]
            obtain ⟨row, hrow⟩ : ∃ row, movC cs ll c = row := ⟨_, rfl⟩
            rw [hrow] at HSC HRL HP5
            clear hrow
            have hrl := HRL.out
            have HO5 := Lib.hid (owns_upd HO.out (Upd.of_below (lo := 0) (hi := 0) HX5.out) (by omega))
            have HR5 := Lib.hid (HR.out.below HX5.out)
            have hs5 := HX5.out.size
            go_wp2_with (at_builtin; refine append1 rfl _ _ 22 rfl w.heap.size 37 Try.underlying22 infoInts rfl (by omega) (by omega) _ c vs rfl HO5.out [.slice ar 4 cr] rfl rfl (by intro u hu; simp at hu; subst hu; rfl) (by omega) (by omega) ?_; intro v' w6 hown6 hg6; have HO6 := Lib.hid hown6; have HG6 := Lib.hid hg6; clear hown6 hg6)
            have hP5 : w5.ownsRow wo.heap.size 3 1 (.slice ar 4 cr) row.length (row.map (Value.int .i64)) := by
              have h := HP5.out
              rw [hrl] at h ⊢
              exact h
            have hP6 := hP5.kept HG6.out (owns_ne hP5 HO5.out (by decide))
            have hR6 := HR5.out.grown HO5.out (by decide) HG6.out
            have hs6 := HG6.out.size
            have hR7 := hR6.snoc hP6 hsw (fun j hj => (hP6.lt j hj).2) (by omega)
            rw [← HSC.out] at hR7
            have HR7 := Lib.hid hR7
            have HB7 : Hid (Below w.heap.size w w6) := Lib.hid ((HW.out.trans (HX5.out.mono hsw)).grown HG6.out (by omega) (owns_block HO5.out))
            clear hR7 hR6 hP6 hP5
            go_roundw
            case rel => exact ⟨c + 1, _, by omega, by go_num, HO6.out, HR7.out, HB7.out⟩
            case measure => simp [intOf]; omega
    · have hk' : c = cs.length := by omega
      subst hk'
      go_wp2_with fail
      go_ret
      exact NewLists.mk (movT_length _ _ _) HO.out HR.out HW.out
end Go.Proofs.Ytfgjmfnbpbanmaa
