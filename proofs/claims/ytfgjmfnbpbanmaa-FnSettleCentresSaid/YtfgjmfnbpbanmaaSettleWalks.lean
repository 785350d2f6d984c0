/-
  The walks of SettleCentres, the program's and the reference's.
-/
import Derived.Test.YtfgjmfnbpbanmaaSettlePlain
import Derived.Test.YtfgjmfnbpbanmaaSameWalks
namespace Go.Proofs.Ytfgjmfnbpbanmaa
open Go.RowKit
set_option linter.unusedVariables false

theorem news_ints {w : World} {b off : Nat} {l : List Int} (hc : ∀ j, j < l.length → w.cell? ⟨b, off + j, none⟩ = some (.int .i64 (l.getD j 0))) : ∀ j u, (l.map (Value.int .i64))[j]? = some u → w.cell? ((⟨b, off, none⟩ : Addr).add j) = some u := fun j u hj => by
  have hjl : j < l.length := by
    have := (List.getElem?_eq_some_iff.1 hj).1
    simpa using this
  rw [add_none, hc j hjl]
  rw [ints_at hjl] at hj
  exact hj
theorem take_snoc {α : Type} {l : List α} {c : Nat} (d : α) (h : c < l.length) : l.take (c + 1) = l.take c ++ [l.getD c d] := by
  rw [List.take_succ_eq_append_getElem h, List.getD_eq_getElem?_getD, List.getElem?_eq_getElem h]; rfl
set_option maxHeartbeats 1000000 in
theorem copyVectors_any (w : World) (lo hi : Nat) (a : Option Addr) (cap : Nat) (L : List (List Int)) (h : Lists w lo hi a L) (hv : vecsB L 4 = true) (hl : L.length ≤ 1000) :
    Calls Try.prog 50 #[.slice a L.length cap] w (NewLists w L) := by
  have HE := Lib.hid (owns_empty w w.heap.size 37 1 (Nat.le_refl _))
  have HV := Lib.hid hv
  clear hv
  go_enter Try.func50, Try.ntmps50
  go_wp2_with fail
  go_loopw [3, 9] (fun v i wr => ∃ (c : Nat) (vs : List Value), c ≤ L.length ∧ i = .int .i64 (c : Int) ∧ Hid (wr.ownsRow w.heap.size 37 1 v c vs) ∧ Hid (RowsO wr w.heap.size wr.heap.size vs (L.take c)) ∧ Hid (Below w.heap.size w wr)) (fun _ i _ => L.length - (intOf i).toNat)
  case atStart => exact ⟨0, [], Nat.zero_le _, rfl, HE.out, rowsO_nil _ _ _, below_alloc _ _⟩
  case round =>
    obtain ⟨c, vs, hc, rfl, HO, HR, HW⟩ := hrel
    by_cases hct : c < L.length
    · have hsw := HW.out.size
      have HSC := Lib.hid (take_snoc [] hct)
      have hls := h.below HW.out
      obtain ⟨pc, oc, ac, cc, rfl, _, _, hcc, hcx⟩ := hls.at_ hct
      have hvy := vecsB_at HV.out hct
      obtain ⟨y, ey⟩ : ∃ y, L.getD c [] = y := ⟨_, rfl⟩
      rw [ey] at hcc hcx hvy HSC
      have hy4 : y.length = 4 := by have := vecB_len hvy; omega
      have HY4 := Lib.hid hy4
      obtain ⟨qa, ua, rfl, _, _, hxc⟩ := hcx.cells (by rintro rfl; simp at hy4)
      have NX := Lib.hid (news_ints hxc)
      rw [hy4] at hcc
      have HE2 := Lib.hid (owns_empty wr wr.heap.size 3 1 (Nat.le_refl _))
      have HO2 := Lib.hid (HO.out.alloc (.cells #[] 3))
      have HR2 := Lib.hid (HR.out.below (below_alloc wr (.cells #[] 3)))
      have HBA := Lib.hid (below_alloc wr (.cells #[] 3))
      have hsz2 : wr.heap.size + 1 = (wr.alloc (.cells #[] 3)).heap.size := by simp
      clear ey hvy hls hcx hxc hy4
      go_wp2_with (first
        | (at_builtin; refine appendN rfl _ _ 37 rfl wr.heap.size 3 Try.underlying37 infoInt rfl (by omega) (by omega) _ 0 [] rfl HE2.out ⟨qa, ua, none⟩ 4 cc (y.map (Value.int .i64)) rfl (by rw [List.length_map, HY4.out]) (fun j u hj => cell_later HBA.out (NX.out j u hj)) (ints_cells y) (by omega) (by simp) ?_; intro v3 w3 hown3 hg3; obtain ⟨a3, c3, rfl, _⟩ := owns_form hown3; have HP3 := Lib.hid hown3; have HO3 := Lib.hid (HO2.out.kept hg3 (owns_ne HO2.out HE2.out (by decide))); have HG3 := Lib.hid hg3; clear hown3 hg3)
        | (at_builtin; refine append1 rfl _ _ 22 rfl w.heap.size 37 Try.underlying22 infoInts rfl (by omega) (by omega) _ c vs rfl HO3.out [.slice a3 4 c3] rfl rfl (by intro u hu; simp at hu; subst hu; rfl) (by omega) (by have := HG3.out.size; omega) ?_; intro v' w6 hown6 hg6; have HO6 := Lib.hid hown6; have HG6 := Lib.hid hg6; clear hown6 hg6))
      have hP3 : w3.ownsRow wr.heap.size 3 1 (.slice a3 4 c3) y.length (y.map (Value.int .i64)) := by rw [HY4.out]; exact HP3.out
      have hB3 : Below wr.heap.size wr w3 := HBA.out.grown HG3.out (by simp) (owns_block HE2.out)
      have hs3 := hB3.size
      have hR3 := HR.out.below hB3
      have hP6 := hP3.kept HG6.out (owns_ne hP3 HO3.out (by decide))
      have hR6 := hR3.grown HO3.out (by decide) HG6.out
      have hs6 := HG6.out.size
      have hR7 := hR6.snoc hP6 hsw (fun j hj => (hP6.lt j hj).2) (by omega)
      rw [← HSC.out] at hR7
      have HR7 := Lib.hid hR7
      have HB7 : Hid (Below w.heap.size w w6) := Lib.hid ((HW.out.trans (hB3.mono hsw)).grown HG6.out (by omega) (owns_block HO3.out))
      clear hR7 hR6 hP6 hP3
      go_roundw
      case rel => exact ⟨c + 1, _, by omega, by go_num, HO6.out, HR7.out, HB7.out⟩
      case measure => simp [intOf]; omega
    · have hk' : c = L.length := by omega
      subst hk'
      go_wp2_with fail
      go_ret
      have hr := HR.out
      rw [List.take_length] at hr
      exact NewLists.mk rfl HO.out hr HW.out
def SetNo (w : World) (e : Ending) (w' : World) : Prop := e = .returned (.tuple #[.slice none 0 0, .int .i64 (-1)]) ∧ Below w.heap.size w w'
set_option maxHeartbeats 1000000 in
theorem implSettle_no (w : World) (lo hi lo' hi' : Nat) (a b : Option Addr) (cap cap' : Nat) (cs : List (List Int)) (ll : List It) (hA : Lists w lo hi a cs) (hI : Items w lo' hi' b ll) (hv : csB cs ll = false) :
    Calls Try.prog 28 #[.slice a cs.length cap, .slice b ll.length cap'] w (SetNo w) := by
  have HB : Hid (Below w.heap.size w w) := Lib.hid (Below.refl _ _)
  rcases csB_cases hv with h1 | ⟨h1, h2⟩
  · go_enter Try.func28, Try.ntmps28
    go_wp2_with fail
    refine (areVectors_any _ _ _ _ _ _ 4 hA).mono ?_
    rintro e w2 ⟨rfl, rfl⟩
    go_wp2_with fail
    go_ret2
    exact ⟨rfl, HB.out⟩
  · go_enter Try.func28, Try.ntmps28
    go_wp2_with fail
    refine (areVectors_any _ _ _ _ _ _ 4 hA).mono ?_
    rintro e w2 ⟨rfl, rfl⟩
    go_wp2_with fail
    refine (implValidStore _ _ _ _ _ _ hI).mono ?_
    rintro e w2 ⟨rfl, hb2⟩
    replace HB := Lib.hid (HB.out.trans (hb2.mono HB.out.size))
    clear hb2
    go_wp2_with fail
    go_ret2
    exact ⟨rfl, HB.out⟩
set_option maxHeartbeats 1000000 in
theorem implSettle_yes (w : World) (lo hi lo' hi' : Nat) (a b : Option Addr) (cap cap' : Nat) (cs : List (List Int)) (ll : List It) (hA : Lists w lo hi a cs) (hI : Items w lo' hi' b ll) (hv : csB cs ll = true) :
    Calls Try.prog 28 #[.slice a cs.length cap, .slice b ll.length cap'] w (GotSet w (itC cs ll (rnd cs ll)) (rnd cs ll)) := by
  have h1 := csB_cen hv
  have h2 := csB_store hv
  have HV := Lib.hid hv
  have hlc := (cenB_len h1).1
  have hlc4 := (cenB_len h1).2
  go_enter Try.func28, Try.ntmps28
  go_wp2_with fail
  refine (areVectors_any _ _ _ _ _ _ 4 hA).mono ?_
  rintro e w2 ⟨rfl, rfl⟩
  go_wp2_with fail
  refine (implValidStore _ _ _ _ _ _ hI).mono ?_
  rintro e w2 ⟨rfl, hb2⟩
  have CV := Lib.hid (copyVectors_any w2 _ _ _ cap cs (hA.below hb2) (cenB_vecs h1) (by omega))
  have HB := Lib.hid hb2
  clear hb2
  go_wp2_with fail
  refine CV.out.mono ?_
  rintro e w3 h3
  obtain ⟨a3, c3, rfl, hc3, hs3, hb3⟩ := h3.sso (cen_ok (csB_cen HV.out))
  have HS3 := Lib.hid (And.intro hc3 (And.intro hs3 hb3))
  clear h1 h2 h3 hc3 hs3 hb3 CV
  go_wp2_with fail
  go_loopw [6, 19] (fun v i wr => ∃ (t : Nat) (a' : Option Addr) (c' : Nat), t ≤ 8 ∧ i = .int .i64 (t : Int) ∧ v = .slice a' cs.length c' ∧ Hid (Cap cs.length c') ∧ Hid (setN cs ll t (8 - t) = rnd cs ll) ∧ Hid (SSO wr w.heap.size wr.heap.size a' (itC cs ll t)) ∧ Hid (Below w.heap.size w wr)) (fun _ i _ => 8 - (intOf i).toNat)
  case atStart =>
    have hsz := HB.out.size
    exact ⟨0, a3, c3, Nat.zero_le _, rfl, rfl, HS3.out.1, rfl, HS3.out.2.1.wide hsz (Nat.le_refl _), HB.out.trans (HS3.out.2.2.mono hsz)⟩
  case round =>
    obtain ⟨t, a', c', ht, rfl, rfl, HC, HN, HS, HW⟩ := hrel
    have hsw := HW.out.size
    by_cases htt : t < 8
    · have HT := Lib.hid (show 8 - t = (8 - (t + 1)) + 1 by omega)
      have HCB := Lib.hid (itC_csB HV.out t)
      have HTL := Lib.hid (itC_len HV.out t)
      have HTL1 := Lib.hid (itC_len HV.out (t + 1))
      have HL := Lib.hid (HS.out.lists (by rw [HTL.out]; omega))
      have MV := Lib.hid (implMoveIn wr _ _ _ _ _ _ c' cap' (itC cs ll t) ll HL.out (hI.below HW.out) HCB.out)
      rw [← movV_yes HCB.out, HTL.out, ← itC_succ] at MV
      have hti : (t : Int) < 8 := by omega
      go_wp2_with fail
      refine MV.out.mono ?_
      rintro e w4 h4
      obtain ⟨a4, c4, rfl, hc4, hs4, hb4⟩ := h4.sso (cen_ok (csB_cen (itC_csB HV.out (t + 1))))
      rw [HTL1.out] at hc4
      have HC4 := Lib.hid hc4
      have HS4 := Lib.hid (hs4.wide hsw (Nat.le_refl _))
      have HL4 := Lib.hid (hs4.lists (by rw [HTL1.out]; omega))
      have HL0 := Lib.hid (HL.out.below hb4)
      have HW4 : Hid (Below w.heap.size w w4) := Lib.hid (HW.out.trans (hb4.mono hsw))
      have HS0 := Lib.hid (HS.out.below hb4)
      have hs44 := hb4.size
      have EQ := Lib.hid (slicesEqualF w4 _ _ _ _ _ _ c' c4 _ _ HL0.out HL4.out)
      rw [HTL.out, HTL1.out] at EQ
      rw [HTL1.out]
      clear h4 hc4 hs4 hb4 MV HL
      cases he : eqLL (itC cs ll t) (itC cs ll (t + 1))
      · have hne := of_decide_eq_false he
        have HN2 := HN.out
        rw [HT.out, setN_go hne] at HN2
        have HN3 := Lib.hid HN2
        rw [he] at EQ
        clear hne HN2 he
        go_wp2_with fail
        refine EQ.out.mono ?_
        rintro e w5 ⟨rfl, hd⟩
        have HS5 := Lib.hid (SSO.wide (HS4.out.drawn hd) (Nat.le_refl _) (size_drawn hd))
        have HW5 : Hid (Below w.heap.size w w5) := Lib.hid (HW4.out.trans hd.below)
        clear hd
        go_wp2_with fail
        go_roundw
        case rel => exact ⟨t + 1, a4, c4, by omega, by go_num, rfl, HC4.out, HN3.out, HS5.out, HW5.out⟩
        case measure => simp [intOf]; omega
      · have heq := of_decide_eq_true he
        have HN2 := HN.out
        rw [HT.out, setN_stop heq] at HN2
        have HN3 := Lib.hid HN2
        rw [he] at EQ
        clear heq HN2 he
        go_wp2_with fail
        refine EQ.out.mono ?_
        rintro e w5 ⟨rfl, hd⟩
        have HS5 := Lib.hid (SSO.wide (HS0.out.drawn hd) (Nat.le_refl _) (Nat.le_trans hs44 (size_drawn hd)))
        have HW5 : Hid (Below w.heap.size w w5) := Lib.hid (HW4.out.trans hd.below)
        clear hd
        go_wp2_with fail
        go_ret2
        rw [← HN3.out]
        exact ⟨a', c', by rw [HTL.out]; rfl, by rw [HTL.out]; exact HC.out, HS5.out, HW5.out⟩
    · have hte : t = 8 := by omega
      subst hte
      have HTL := Lib.hid (itC_len HV.out 8)
      go_wp2_with fail
      go_ret2
      have hn : 8 = rnd cs ll := HN.out
      rw [← hn]
      exact ⟨a', c', by rw [HTL.out]; rfl, by rw [HTL.out]; exact HC.out, HS.out, HW.out⟩
set_option maxHeartbeats 1000000 in
theorem specSettle_no (w : World) (lo hi lo' hi' : Nat) (a b : Option Addr) (cap cap' : Nat) (cs : List (List Int)) (ll : List It) (hA : Lists w lo hi a cs) (hI : Items w lo' hi' b ll) (hv : csB cs ll = false) :
    Calls Try.prog 27 #[.slice a cs.length cap, .slice b ll.length cap'] w (SetNo w) := by
  have HB : Hid (Below w.heap.size w w) := Lib.hid (Below.refl _ _)
  rcases csB_cases hv with h1 | ⟨h1, h2⟩
  · go_enter Try.func27, Try.ntmps27
    go_wp2_with fail
    refine (validCentres_any _ _ _ _ _ _  hA).mono ?_
    rintro e w2 ⟨rfl, rfl⟩
    go_wp2_with fail
    go_ret2
    exact ⟨rfl, HB.out⟩
  · go_enter Try.func27, Try.ntmps27
    go_wp2_with fail
    refine (validCentres_any _ _ _ _ _ _  hA).mono ?_
    rintro e w2 ⟨rfl, rfl⟩
    go_wp2_with fail
    refine (specValidStoreIn _ _ _ _ _ _ hI).mono ?_
    rintro e w2 ⟨rfl, hb2⟩
    replace HB := Lib.hid (HB.out.trans (hb2.mono HB.out.size))
    clear hb2
    go_wp2_with fail
    go_ret2
    exact ⟨rfl, HB.out⟩
set_option maxHeartbeats 1000000 in
theorem specSettle_yes (w : World) (lo hi lo' hi' : Nat) (a b : Option Addr) (cap cap' : Nat) (cs : List (List Int)) (ll : List It) (hA : Lists w lo hi a cs) (hI : Items w lo' hi' b ll) (hv : csB cs ll = true) :
    Calls Try.prog 27 #[.slice a cs.length cap, .slice b ll.length cap'] w (GotSet w (itC cs ll (rnd cs ll)) (rnd cs ll)) := by
  have h1 := csB_cen hv
  have h2 := csB_store hv
  have HV := Lib.hid hv
  have hlc := (cenB_len h1).1
  have hlc4 := (cenB_len h1).2
  go_enter Try.func27, Try.ntmps27
  go_wp2_with fail
  refine (validCentres_any _ _ _ _ _ _ hA).mono ?_
  rintro e w2 ⟨rfl, rfl⟩
  go_wp2_with fail
  refine (specValidStoreIn _ _ _ _ _ _ hI).mono ?_
  rintro e w2 ⟨rfl, hb2⟩
  have hA2 := hA.below hb2
  have HB := Lib.hid hb2
  have HE := Lib.hid (owns_empty w2 w2.heap.size 37 1 (Nat.le_refl _))
  have HVC := Lib.hid (cenB_vecs h1)
  clear hb2
  go_wp2_with fail
  clear h1 h2
  go_loopw [6, 7] (fun v i wr => ∃ (c : Nat) (vs : List Value), c ≤ cs.length ∧ i = .int .i64 (c : Int) ∧ Hid (wr.ownsRow w2.heap.size 37 1 v c vs) ∧ Hid (RowsO wr w2.heap.size wr.heap.size vs (cs.take c)) ∧ Hid (Below w2.heap.size w2 wr)) (fun _ i _ => cs.length - (intOf i).toNat)
  case atStart => exact ⟨0, [], Nat.zero_le _, rfl, HE.out, rowsO_nil _ _ _, below_alloc _ _⟩
  case round =>
    obtain ⟨c, vs, hc, rfl, HO, HR, HW⟩ := hrel
    by_cases hct : c < cs.length
    · have hsw := HW.out.size
      have HSC := Lib.hid (take_snoc [] hct)
      have hls := hA2.below HW.out
      obtain ⟨pc, oc, ac, cc, rfl, _, _, hcc, hcx⟩ := hls.at_ hct
      have hvy := vecsB_at HVC.out hct
      obtain ⟨y, ey⟩ : ∃ y, cs.getD c [] = y := ⟨_, rfl⟩
      rw [ey] at hcc hcx hvy HSC
      have hy4 : y.length = 4 := by have := vecB_len hvy; omega
      have HY4 := Lib.hid hy4
      have CI := Lib.hid (copyInts_any wr _ _ _ cc y hcx (by omega) (by omega))
      rw [hy4] at hcc CI
      have hci : (c : Int) < cs.length := by omega
      clear ey hvy hls hcx hy4
      go_wp2_with fail
      refine CI.out.mono ?_
      rintro e w3 ⟨g3, c3, rfl, _, _, hown3, hB3⟩
      have HP3 := Lib.hid hown3
      have HB3 := Lib.hid hB3
      have hs3 := hB3.size
      have HO3 := Lib.hid (owns_upd HO.out (Upd.of_below (lo := 0) (hi := 0) hB3) (by omega))
      rw [HY4.out]
      clear hown3 hB3 hcc
      go_wp2_with (at_builtin; refine append1 rfl _ _ 22 rfl w2.heap.size 37 Try.underlying22 infoInts rfl (by omega) (by omega) _ c vs rfl HO3.out [.slice (some ⟨g3, 0, none⟩) 4 c3] rfl rfl (by intro u hu; simp at hu; subst hu; rfl) (by omega) (by omega) ?_; intro v' w6 hown6 hg6; have HO6 := Lib.hid hown6; have HG6 := Lib.hid hg6; clear hown6 hg6)
      have hP3 : w3.ownsRow wr.heap.size 3 1 (.slice (some ⟨g3, 0, none⟩) 4 c3) y.length (y.map (Value.int .i64)) := by
        have h := HP3.out
        rw [HY4.out] at h ⊢
        exact h
      have hR3 := HR.out.below HB3.out
      have hP6 := hP3.kept HG6.out (owns_ne hP3 HO3.out (by decide))
      have hR6 := hR3.grown HO3.out (by decide) HG6.out
      have hs6 := HG6.out.size
      have hR7 := hR6.snoc hP6 hsw (fun j hj => (hP6.lt j hj).2) (by omega)
      rw [← HSC.out] at hR7
      have HR7 := Lib.hid hR7
      have HB7 : Hid (Below w2.heap.size w2 w6) := Lib.hid ((HW.out.trans (HB3.out.mono hsw)).grown HG6.out (by omega) (owns_block HO3.out))
      clear hR7 hR6 hP6 hP3
      go_roundw
      case rel => exact ⟨c + 1, _, by omega, by go_num, HO6.out, HR7.out, HB7.out⟩
      case measure => simp [intOf]; omega
    · have hk' : c = cs.length := by omega
      subst hk'
      rename World => w3
      have hr := HR.out
      rw [List.take_length] at hr
      obtain ⟨a3, c3, rfl, hc3⟩ := owns_form HO.out
      have HS3 := Lib.hid (And.intro hc3 (And.intro (sso_of_new HO.out hr (cen_ok (csB_cen HV.out))).2 HW.out))
      clear hr hc3 HO HR HW
      go_wp2_with fail
      go_loopw [6, 8] (fun v i wr => ∃ (t : Nat) (a' : Option Addr) (c' : Nat), t ≤ 8 ∧ i = .int .i64 (t : Int) ∧ v = .slice a' cs.length c' ∧ Hid (Cap cs.length c') ∧ Hid (setN cs ll t (8 - t) = rnd cs ll) ∧ Hid (SSO wr w.heap.size wr.heap.size a' (itC cs ll t)) ∧ Hid (Below w.heap.size w wr)) (fun _ i _ => 8 - (intOf i).toNat)
      case atStart =>
        have hsz := HB.out.size
        exact ⟨0, a3, c3, Nat.zero_le _, rfl, rfl, HS3.out.1, rfl, HS3.out.2.1.wide hsz (Nat.le_refl _), HB.out.trans (HS3.out.2.2.mono hsz)⟩
      case round =>
        obtain ⟨t, a', c', ht, rfl, rfl, HC, HN, HS, HW⟩ := hrel
        have hsw := HW.out.size
        by_cases htt : t < 8
        · have HT := Lib.hid (show 8 - t = (8 - (t + 1)) + 1 by omega)
          have HCB := Lib.hid (itC_csB HV.out t)
          have HTL := Lib.hid (itC_len HV.out t)
          have HTL1 := Lib.hid (itC_len HV.out (t + 1))
          have HL := Lib.hid (HS.out.lists (by rw [HTL.out]; omega))
          have MV := Lib.hid (specMoveIn wr _ _ _ _ _ _ c' cap' (itC cs ll t) ll HL.out (hI.below HW.out) HCB.out)
          rw [← movV_yes HCB.out, HTL.out, ← itC_succ] at MV
          have hti : (t : Int) < 8 := by omega
          go_wp2_with fail
          refine MV.out.mono ?_
          rintro e w4 h4
          obtain ⟨a4, c4, rfl, hc4, hs4, hb4⟩ := h4.sso (cen_ok (csB_cen (itC_csB HV.out (t + 1))))
          rw [HTL1.out] at hc4
          have HC4 := Lib.hid hc4
          have HS4 := Lib.hid (hs4.wide hsw (Nat.le_refl _))
          have HL4 := Lib.hid (hs4.lists (by rw [HTL1.out]; omega))
          have HL0 := Lib.hid (HL.out.below hb4)
          have HW4 : Hid (Below w.heap.size w w4) := Lib.hid (HW.out.trans (hb4.mono hsw))
          have HS0 := Lib.hid (HS.out.below hb4)
          have hs44 := hb4.size
          have EQ := Lib.hid (sameVectors_any w4 _ _ _ _ _ _ c4 c' _ _ HL4.out HL0.out (cenB_vecs (csB_cen (itC_csB HV.out (t + 1)))) (cenB_vecs (csB_cen (itC_csB HV.out t))) (by rw [HTL.out, HTL1.out]))
          rw [HTL.out, HTL1.out] at EQ
          rw [HTL1.out]
          clear h4 hc4 hs4 hb4 MV HL
          cases he : eqLL (itC cs ll (t + 1)) (itC cs ll t)
          · have hne := Ne.symm (of_decide_eq_false he)
            have HN2 := HN.out
            rw [HT.out, setN_go hne] at HN2
            have HN3 := Lib.hid HN2
            rw [he] at EQ
            clear hne HN2 he
            go_wp2_with fail
            refine EQ.out.mono ?_
            rintro e w5 ⟨rfl, hd⟩
            have HS5 := Lib.hid (SSO.wide (HS4.out.drawn hd) (Nat.le_refl _) (size_drawn hd))
            have HW5 : Hid (Below w.heap.size w w5) := Lib.hid (HW4.out.trans hd.below)
            clear hd
            go_wp2_with fail
            go_roundw
            case rel => exact ⟨t + 1, a4, c4, by omega, by go_num, rfl, HC4.out, HN3.out, HS5.out, HW5.out⟩
            case measure => simp [intOf]; omega
          · have heq := (of_decide_eq_true he).symm
            have HN2 := HN.out
            rw [HT.out, setN_stop heq] at HN2
            have HN3 := Lib.hid HN2
            rw [he] at EQ
            clear heq HN2 he
            go_wp2_with fail
            refine EQ.out.mono ?_
            rintro e w5 ⟨rfl, hd⟩
            have HS5 := Lib.hid (SSO.wide (HS0.out.drawn hd) (Nat.le_refl _) (Nat.le_trans hs44 (size_drawn hd)))
            have HW5 : Hid (Below w.heap.size w w5) := Lib.hid (HW4.out.trans hd.below)
            clear hd
            go_wp2_with fail
            go_ret2
            rw [← HN3.out]
            exact ⟨a', c', by rw [HTL.out]; rfl, by rw [HTL.out]; exact HC.out, HS5.out, HW5.out⟩
        · have hte : t = 8 := by omega
          subst hte
          have HTL := Lib.hid (itC_len HV.out 8)
          go_wp2_with fail
          go_ret2
          have hn : 8 = rnd cs ll := HN.out
          rw [← hn]
          exact ⟨a', c', by rw [HTL.out]; rfl, by rw [HTL.out]; exact HC.out, HS.out, HW.out⟩
def GetSet (w : World) (ll : List (List Int)) (n : Int) (e : Ending) (w' : World) : Prop :=
  ∃ a cap, e = .returned (.tuple #[.slice a ll.length cap, .int .i64 n]) ∧ Lists w' 0 w'.heap.size a ll ∧ Cap ll.length cap ∧ Below w.heap.size w w'
theorem implSettle_new (w : World) (lo hi lo' hi' : Nat) (a b : Option Addr) (cap cap' : Nat) (cs : List (List Int)) (ll : List It) (hA : Lists w lo hi a cs) (hI : Items w lo' hi' b ll) :
    Calls Try.prog 28 #[.slice a cs.length cap, .slice b ll.length cap'] w (GotSet w (setL cs ll) (setR cs ll)) := by
  cases hv : csB cs ll
  · rw [setL_no hv, setR_no hv]
    exact (implSettle_no w lo hi lo' hi' a b cap cap' cs ll hA hI hv).mono fun _ _ h => by
      obtain ⟨rfl, hb⟩ := h
      exact ⟨none, 0, rfl, by simp [Cap], ⟨0, fun _ => 0, fun _ => none, fun _ => 0, fun h => absurd rfl h, fun j hj => absurd hj (Nat.not_lt_zero _), fun i j hj => absurd hj (Nat.not_lt_zero _), fun h => absurd rfl h⟩, hb⟩
  · rw [setL_yes hv, setR_yes hv]
    exact implSettle_yes w lo hi lo' hi' a b cap cap' cs ll hA hI hv
theorem implSettle_read (w : World) (lo hi lo' hi' : Nat) (a b : Option Addr) (cap cap' : Nat) (cs : List (List Int)) (ll : List It) (hA : Lists w lo hi a cs) (hI : Items w lo' hi' b ll) :
    Calls Try.prog 28 #[.slice a cs.length cap, .slice b ll.length cap'] w (GetSet w (setL cs ll) (setR cs ll)) :=
  (implSettle_new w lo hi lo' hi' a b cap cap' cs ll hA hI).mono fun _ _ h => by
    obtain ⟨a2, c2, he, hc, hs, hb⟩ := h
    exact ⟨a2, c2, he, (hs.lists (by have := (setL_ok cs ll).1; omega)).wide (Nat.zero_le _) (Nat.le_refl _), hc, hb⟩
theorem specSettle_new (w : World) (lo hi lo' hi' : Nat) (a b : Option Addr) (cap cap' : Nat) (cs : List (List Int)) (ll : List It) (hA : Lists w lo hi a cs) (hI : Items w lo' hi' b ll) :
    Calls Try.prog 27 #[.slice a cs.length cap, .slice b ll.length cap'] w (GotSet w (setL cs ll) (setR cs ll)) := by
  cases hv : csB cs ll
  · rw [setL_no hv, setR_no hv]
    exact (specSettle_no w lo hi lo' hi' a b cap cap' cs ll hA hI hv).mono fun _ _ h => by
      obtain ⟨rfl, hb⟩ := h
      exact ⟨none, 0, rfl, by simp [Cap], ⟨0, fun _ => 0, fun _ => none, fun _ => 0, fun h => absurd rfl h, fun j hj => absurd hj (Nat.not_lt_zero _), fun i j hj => absurd hj (Nat.not_lt_zero _), fun h => absurd rfl h⟩, hb⟩
  · rw [setL_yes hv, setR_yes hv]
    exact specSettle_yes w lo hi lo' hi' a b cap cap' cs ll hA hI hv
theorem specSettle_read (w : World) (lo hi lo' hi' : Nat) (a b : Option Addr) (cap cap' : Nat) (cs : List (List Int)) (ll : List It) (hA : Lists w lo hi a cs) (hI : Items w lo' hi' b ll) :
    Calls Try.prog 27 #[.slice a cs.length cap, .slice b ll.length cap'] w (GetSet w (setL cs ll) (setR cs ll)) :=
  (specSettle_new w lo hi lo' hi' a b cap cap' cs ll hA hI).mono fun _ _ h => by
    obtain ⟨a2, c2, he, hc, hs, hb⟩ := h
    exact ⟨a2, c2, he, (hs.lists (by have := (setL_ok cs ll).1; omega)).wide (Nat.zero_le _) (Nat.le_refl _), hc, hb⟩
end Go.Proofs.Ytfgjmfnbpbanmaa
