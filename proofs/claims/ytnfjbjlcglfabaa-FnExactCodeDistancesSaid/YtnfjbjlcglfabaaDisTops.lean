/-
  The distances of all codes: CodeDistances of the program and of the reference.
-/
import Derived.Test.YtnfjbjlcglfabaaBookTops
namespace Go.Proofs.Ytnfjbjlcglfabaa
open Go.RowKit
set_option linter.unusedVariables false

theorem disL_ok {L R : List (List Int)} {m : List Int} (h : bookB L R = true) (h4 : vecB m 4 = true) {n : Nat} (hn : n ≤ 16) : ∀ x ∈ disL L R m n, 0 ≤ x ∧ x ≤ 160000 := fun x hx => by
  unfold disL at hx
  obtain ⟨c, hc, rfl⟩ := List.mem_map.1 hx
  have hc' : c < 16 := by have := List.mem_range.1 hc; omega
  exact dst_bd 3 (vecB_coords (decL_vec h hc')) (vecB_coords h4) 4
/-- the two ways around, as both sides reckon it -/
theorem dis_impl {L R : List (List Int)} {m : List Int} (h4 : vecB m 4 = true) (c : Nat) : dst 3 m (decL L R c) m.length = dst 3 (decL L R c) m 4 := by
  have := vecB_len h4
  rw [show m.length = 4 by omega, dst_comm]
theorem dis_spec {L R : List (List Int)} (h : bookB L R = true) (m : List Int) {c : Nat} (hc : c < 16) : dst 3 (decL L R c) m (decL L R c).length = dst 3 (decL L R c) m 4 := by
  have := vecB_len (decL_vec h hc)
  rw [show (decL L R c).length = 4 by omega]

set_option maxHeartbeats 1000000 in
theorem implCodeDistances_no (w : World) (lo hi lo' hi' : Nat) (a b p : Option Addr) (cap cap' capp : Nat) (L R : List (List Int)) (m : List Int) (h : Sides w lo hi a b L R) (hm : Ints w lo' hi' p m) (hn : ¬ (bookB L R = true ∧ vecB m 4 = true)) :
    Calls Try.prog 34 #[.agg #[.slice a L.length cap, .slice b R.length cap'], .slice p m.length capp] w (NilPost w) := by
  have hB : Below w.heap.size w (w.alloc (.cells #[.slice a L.length cap, .slice b R.length cap'] 25)) := (Below.refl _ _).alloc (Nat.le_refl _) _
  have h' := h.below hB
  have hm' := hm.below hB
  have K := Lib.hid (cell_new w #[.slice a L.length cap, .slice b R.length cap'] 25 0)
  have K' := Lib.hid (cell_new w #[.slice a L.length cap, .slice b R.length cap'] 25 1)
  have HB := Lib.hid hB
  clear hB
  cases hv : bookB L R
  · clear hn
    go_enter Try.func34, Try.ntmps34
    go_wp2_with fail
    refine (isBook_any _ _ _ _ _ _ _ _ _ h').mono ?_
    rintro e w2 ⟨rfl, hb2⟩
    replace HB := Lib.hid (HB.out.trans (hb2.mono HB.out.size))
    clear hb2
    go_wp2_with fail
    go_ret
    exact ⟨rfl, HB.out⟩
  · have h4 : vecB m 4 = false := by
      cases h : vecB m 4
      · rfl
      · exact absurd ⟨hv, h⟩ hn
    clear hn
    go_enter Try.func34, Try.ntmps34
    go_wp2_with fail
    refine (isBook_any _ _ _ _ _ _ _ _ _ h').mono ?_
    rintro e w2 ⟨rfl, hb2⟩
    replace hm' := hm'.below hb2
    replace HB := Lib.hid (HB.out.trans (hb2.mono HB.out.size))
    clear hb2
    go_wp2_with fail
    refine (implIsVector _ _ _ _ _ _ 4 hm').mono ?_
    rintro e w3 ⟨rfl, rfl⟩
    go_wp2_with fail
    go_ret
    exact ⟨rfl, HB.out⟩
set_option maxHeartbeats 2000000 in
theorem implCodeDistances_yes (w : World) (lo hi lo' hi' : Nat) (a b p : Option Addr) (cap cap' capp : Nat) (L R : List (List Int)) (m : List Int) (h : Sides w lo hi a b L R) (hm : Ints w lo' hi' p m) (hv : bookB L R = true) (h4 : vecB m 4 = true) :
    Calls Try.prog 34 #[.agg #[.slice a L.length cap, .slice b R.length cap'], .slice p m.length capp] w (OwnPost w (disL L R m 16)) := by
  have hB : Below w.heap.size w (w.alloc (.cells #[.slice a L.length cap, .slice b R.length cap'] 25)) := (Below.refl _ _).alloc (Nat.le_refl _) _
  have h' := h.below hB
  have hm' := hm.below hB
  have K := Lib.hid (cell_new w #[.slice a L.length cap, .slice b R.length cap'] 25 0)
  have K' := Lib.hid (cell_new w #[.slice a L.length cap, .slice b R.length cap'] 25 1)
  have HB := Lib.hid hB
  clear hB
  have HV := Lib.hid hv
  have H4 := Lib.hid h4
  go_enter Try.func34, Try.ntmps34
  go_wp2_with fail
  refine (isBook_any _ _ _ _ _ _ _ _ _ h').mono ?_
  rintro e w2 ⟨rfl, hb2⟩
  replace h' := h'.below hb2
  replace hm' := hm'.below hb2
  have k0 := cell_later hb2 K.out
  have k1 := cell_later hb2 K'.out
  replace HB := Lib.hid (HB.out.trans (hb2.mono HB.out.size))
  clear hb2
  go_wp2_with fail
  refine (implIsVector _ _ _ _ _ _ 4 hm').mono ?_
  rintro e w3 ⟨rfl, rfl⟩
  have HK0 := Lib.hid k0
  have HK1 := Lib.hid k1
  have HE := Lib.hid (owns_empty w2 w2.heap.size 3 1 (Nat.le_refl _))
  clear k0 k1
  go_wp2_with fail
  clear hv h4
  go_loopw [5, 16] (fun v i wr => ∃ k : Nat, k ≤ 16 ∧ i = .int .i64 (k : Int) ∧ Hid (wr.ownsRow w2.heap.size 3 1 v k ((disL L R m k).map (Value.int .i64))) ∧ Hid (Below w2.heap.size w2 wr) ∧ w2.heap.size ≤ wr.heap.size) (fun _ i _ => 16 - (intOf i).toNat)
  case atStart => exact ⟨0, Nat.zero_le _, rfl, HE.out, (Below.refl _ _).alloc (Nat.le_refl _) _, by simp⟩
  case round =>
    obtain ⟨k, hk, rfl, HO, HW, hsz⟩ := hrel
    by_cases hlt : k < 16
    · have k0 := cell_later HW.out HK0.out
      have k1 := cell_later HW.out HK1.out
      have hs := h'.below HW.out
      have hp := hm'.below HW.out
      have DV := Lib.hid (decL_vec HV.out hlt)
      have DE := Lib.hid (dis_impl (L := L) (R := R) H4.out k)
      have DS := Lib.hid (disL_succ L R m k)
      have DB := Lib.hid (dst_bd 3 (vecB_coords (decL_vec HV.out hlt)) (vecB_coords H4.out) 4)
      go_wp2_with fail
      refine (implDecode _ _ _ _ _ _ _ _ _ _ hs HV.out hlt).mono ?_
      rintro e w4 ⟨g, gcap, rfl, g1, g2, hown, hb4⟩
      obtain ⟨ag, cg, hg, hid⟩ := ints_of_owns hown (fun x hx => by have := coordsB_ok (vecB_coords DV.out) x hx; omega) (by have := vecB_len DV.out; omega)
      simp only [Value.slice.injEq] at hg
      obtain ⟨rfl, _, rfl⟩ := hg
      replace hp := hp.below hb4
      have HO4 := Lib.hid (owns_upd HO.out (Upd.of_below (lo := 0) (hi := 0) hb4) (by omega))
      have HW4 := Lib.hid (HW.out.trans (hb4.mono hsz))
      have hs4 := hb4.size
      have l4 : m.length ≤ (decL L R k).length := by have := vecB_len DV.out; have := vecB_len H4.out; omega
      have l5 : m.length ≤ 1000 := by have := vecB_len H4.out; omega
      clear hown hb4
      go_wp2_with fail
      refine (implDistance _ _ _ _ _ _ _ _ _ m (decL L R k) 3 hp hid (vecB_coords H4.out) (vecB_coords DV.out) l4 l5).mono ?_
      rintro e w5 ⟨rfl, hd⟩
      rw [DE.out]
      obtain ⟨x, ex⟩ : ∃ x, dst 3 (decL L R k) m 4 = x := ⟨_, rfl⟩
      rw [ex] at DS DB ⊢
      clear ex
      have HO5 := Lib.hid (owns_upd HO4.out (hd.upd (lo := 0) (hi := 0)) (by omega))
      have HW5 := Lib.hid (HW4.out.trans (hd.below))
      have hs5 : w2.heap.size ≤ w5.heap.size := by rw [hd.heap]; omega
      clear hd
      go_wp2_with (at_builtin; refine append1 rfl _ _ 36 rfl w2.heap.size 3 Try.underlying36 infoInt rfl (by omega) (by omega) _ k ((disL L R m k).map (Value.int .i64)) rfl HO5.out [.int .i64 x] rfl rfl (ints_cells [x]) (by omega) (by omega) ?_; intro v' w6 hown6 hg6; have HO6 := Lib.hid hown6; have HG6 := Lib.hid hg6; clear hown6 hg6)
      have hs6 := HG6.out.size
      go_roundw
      case rel => exact ⟨k + 1, by omega, by go_num, by rw [DS.out, List.map_append]; exact HO6.out, HW5.out.grown HG6.out (by omega) (owns_block HO.out), by omega⟩
      case measure => simp [intOf]; omega
    · have hk' : k = 16 := by omega
      subst hk'
      go_wp2_with fail
      go_ret
      have hl := disL_length L R m 16
      obtain ⟨g, gcap, rfl, _, g1, g2⟩ := owns_shape HO.out (by omega)
      have HO' := HO.out
      have hbb := HB.out
      refine ⟨g, gcap, ret_slice hl.symm, by omega, g2, ?_, hbb.trans (HW.out.mono hbb.size)⟩
      rw [hl]
      exact ⟨HO'.1, HO'.2.imp id fun ⟨g', c', cur, q1, q2, q3⟩ => ⟨g', c', cur, q1, Nat.le_trans hbb.size q2, q3⟩⟩
set_option maxHeartbeats 1000000 in
theorem specCodeDistances_no (w : World) (lo hi lo' hi' : Nat) (a b p : Option Addr) (cap cap' capp : Nat) (L R : List (List Int)) (m : List Int) (h : Sides w lo hi a b L R) (hm : Ints w lo' hi' p m) (hn : ¬ (bookB L R = true ∧ vecB m 4 = true)) :
    Calls Try.prog 35 #[.agg #[.slice a L.length cap, .slice b R.length cap'], .slice p m.length capp] w (NilPost w) := by
  have hB0 : Below w.heap.size w (w.alloc (.cells #[.slice a L.length cap, .slice b R.length cap'] 25)) := (Below.refl _ _).alloc (Nat.le_refl _) _
  have hB1 : Below (w.alloc (.cells #[.slice a L.length cap, .slice b R.length cap'] 25)).heap.size (w.alloc (.cells #[.slice a L.length cap, .slice b R.length cap'] 25)) ((w.alloc (.cells #[.slice a L.length cap, .slice b R.length cap'] 25)).alloc (.cells #[] 3)) := (Below.refl _ _).alloc (Nat.le_refl _) _
  have h' := (h.below hB0).below hB1
  have hm' := (hm.below hB0).below hB1
  have K := Lib.hid (cell_later hB1 (cell_new w #[.slice a L.length cap, .slice b R.length cap'] 25 0))
  have K' := Lib.hid (cell_later hB1 (cell_new w #[.slice a L.length cap, .slice b R.length cap'] 25 1))
  have HB := Lib.hid (hB0.trans (hB1.mono hB0.size))
  have HE := Lib.hid (owns_empty (w.alloc (.cells #[.slice a L.length cap, .slice b R.length cap'] 25)) (w.heap.size + 1) 3 1 (by simp))
  clear hB0 hB1
  cases hv : bookB L R
  · clear hn
    go_enter Try.func35, Try.ntmps35
    go_wp2_with fail
    refine (validBook_any _ _ _ _ _ _ _ _ _ h').mono ?_
    rintro e w2 ⟨rfl, hb2⟩
    replace HB := Lib.hid (HB.out.trans (hb2.mono HB.out.size))
    clear hb2
    go_wp2_with fail
    go_ret
    exact ⟨rfl, HB.out⟩
  · have h4 : vecB m 4 = false := by
      cases h : vecB m 4
      · rfl
      · exact absurd ⟨hv, h⟩ hn
    clear hn
    go_enter Try.func35, Try.ntmps35
    go_wp2_with fail
    refine (validBook_any _ _ _ _ _ _ _ _ _ h').mono ?_
    rintro e w2 ⟨rfl, hb2⟩
    replace hm' := hm'.below hb2
    replace HB := Lib.hid (HB.out.trans (hb2.mono HB.out.size))
    clear hb2
    go_wp2_with fail
    refine (specIsVector _ _ _ _ _ _  hm').mono ?_
    rintro e w3 ⟨rfl, rfl⟩
    go_wp2_with fail
    go_ret
    exact ⟨rfl, HB.out⟩
set_option maxHeartbeats 2000000 in
theorem specCodeDistances_yes (w : World) (lo hi lo' hi' : Nat) (a b p : Option Addr) (cap cap' capp : Nat) (L R : List (List Int)) (m : List Int) (h : Sides w lo hi a b L R) (hm : Ints w lo' hi' p m) (hv : bookB L R = true) (h4 : vecB m 4 = true) :
    Calls Try.prog 35 #[.agg #[.slice a L.length cap, .slice b R.length cap'], .slice p m.length capp] w (OwnPost w (disL L R m 16)) := by
  have hB0 : Below w.heap.size w (w.alloc (.cells #[.slice a L.length cap, .slice b R.length cap'] 25)) := (Below.refl _ _).alloc (Nat.le_refl _) _
  have hB1 : Below (w.alloc (.cells #[.slice a L.length cap, .slice b R.length cap'] 25)).heap.size (w.alloc (.cells #[.slice a L.length cap, .slice b R.length cap'] 25)) ((w.alloc (.cells #[.slice a L.length cap, .slice b R.length cap'] 25)).alloc (.cells #[] 3)) := (Below.refl _ _).alloc (Nat.le_refl _) _
  have h' := (h.below hB0).below hB1
  have hm' := (hm.below hB0).below hB1
  have K := Lib.hid (cell_later hB1 (cell_new w #[.slice a L.length cap, .slice b R.length cap'] 25 0))
  have K' := Lib.hid (cell_later hB1 (cell_new w #[.slice a L.length cap, .slice b R.length cap'] 25 1))
  have HB := Lib.hid (hB0.trans (hB1.mono hB0.size))
  have HE := Lib.hid (owns_empty (w.alloc (.cells #[.slice a L.length cap, .slice b R.length cap'] 25)) (w.heap.size + 1) 3 1 (by simp))
  clear hB0 hB1
  have HV := Lib.hid hv
  have H4 := Lib.hid h4
  go_enter Try.func35, Try.ntmps35
  go_wp2_with fail
  refine (validBook_any _ _ _ _ _ _ _ _ _ h').mono ?_
  rintro e w2 ⟨rfl, hb2⟩
  replace HE := Lib.hid (owns_upd HE.out (Upd.of_below (lo := 0) (hi := 0) hb2) (by omega))
  replace h' := h'.below hb2
  replace hm' := hm'.below hb2
  have k0 := cell_later hb2 K.out
  have k1 := cell_later hb2 K'.out
  replace HB := Lib.hid (HB.out.trans (hb2.mono HB.out.size))
  clear hb2
  go_wp2_with fail
  refine (specIsVector _ _ _ _ _ _ hm').mono ?_
  rintro e w3 ⟨rfl, rfl⟩
  have HK0 := Lib.hid k0
  have HK1 := Lib.hid k1
  have HZ2 : Hid (w.heap.size + 1 ≤ w2.heap.size) := Lib.hid (World.block_lt_of_cell? _ _ HK0.out)
  clear k0 k1
  go_wp2_with fail
  clear hv h4
  go_loopw [5, 6] (fun v i wr => ∃ k : Nat, k ≤ 16 ∧ i = .int .i64 (k : Int) ∧ Hid (wr.ownsRow (w.heap.size + 1) 3 1 v k ((disL L R m k).map (Value.int .i64))) ∧ Hid (wr.cell? ⟨w.heap.size, 0, none⟩ = some (.slice a L.length cap)) ∧ Hid (wr.cell? ⟨w.heap.size, 1, none⟩ = some (.slice b R.length cap')) ∧ Hid (Below w.heap.size w wr) ∧ w.heap.size + 1 ≤ wr.heap.size) (fun _ i _ => 16 - (intOf i).toNat)
  case atStart => exact ⟨0, Nat.zero_le _, rfl, by have := HE.out; rw [World.size_alloc] at this; exact this, HK0.out, HK1.out, HB.out, HZ2.out⟩
  case round =>
    obtain ⟨k, hk, rfl, HO, HK0, HK1, HW, hsz⟩ := hrel
    by_cases hlt : k < 16
    · have k0 := HK0.out
      have k1 := HK1.out
      have hs := h.below HW.out
      have hp := hm.below HW.out
      have DV := Lib.hid (decL_vec HV.out hlt)
      have DE := Lib.hid (dis_spec HV.out m hlt)
      have DS := Lib.hid (disL_succ L R m k)
      have DB := Lib.hid (dst_bd 3 (vecB_coords (decL_vec HV.out hlt)) (vecB_coords H4.out) 4)
      go_wp2_with fail
      refine (specDecode _ _ _ _ _ _ _ _ _ _ hs HV.out hlt).mono ?_
      rintro e w4 ⟨g, gcap, rfl, g1, g2, hown, hb4⟩
      obtain ⟨ag, cg, hg, hid⟩ := ints_of_owns hown (fun x hx => by have := coordsB_ok (vecB_coords DV.out) x hx; omega) (by have := vecB_len DV.out; omega)
      simp only [Value.slice.injEq] at hg
      obtain ⟨rfl, _, rfl⟩ := hg
      replace hp := hp.below hb4
      have HO4 := Lib.hid (owns_upd HO.out (Upd.of_below (lo := 0) (hi := 0) hb4) (by omega))
      have HW4 := Lib.hid (HW.out.trans (hb4.mono (by omega)))
      replace HK0 := Lib.hid (cell_later hb4 HK0.out)
      replace HK1 := Lib.hid (cell_later hb4 HK1.out)
      have hs4 := hb4.size
      have l4 : (decL L R k).length ≤ m.length := by have := vecB_len DV.out; have := vecB_len H4.out; omega
      have l5 : (decL L R k).length ≤ 1000 := by have := vecB_len H4.out; omega
      clear hown hb4 k0 k1
      go_wp2_with fail
      refine (specDist _ _ _ _ _ _ _ _ _ (decL L R k) m 3 hid hp (vecB_coords DV.out) (vecB_coords H4.out) l4 l5).mono ?_
      rintro e w5 ⟨rfl, hd⟩
      rw [DE.out]
      obtain ⟨x, ex⟩ : ∃ x, dst 3 (decL L R k) m 4 = x := ⟨_, rfl⟩
      rw [ex] at DS DB ⊢
      clear ex
      have HO5 := Lib.hid (owns_upd HO4.out (hd.upd (lo := 0) (hi := 0)) (by omega))
      have HW5 := Lib.hid (HW4.out.trans (hd.below))
      replace HK0 := Lib.hid (hd.cell HK0.out)
      replace HK1 := Lib.hid (hd.cell HK1.out)
      have hs5 : w.heap.size + 1 ≤ w5.heap.size := by rw [hd.heap]; omega
      clear hd
      go_wp2_with (at_builtin; refine append1 rfl _ _ 36 rfl (w.heap.size + 1) 3 Try.underlying36 infoInt rfl (by omega) (by omega) _ k ((disL L R m k).map (Value.int .i64)) rfl HO5.out [.int .i64 x] rfl rfl (ints_cells [x]) (by omega) (by omega) ?_; intro v' w6 hown6 hg6; have HO6 := Lib.hid hown6; have HG6 := Lib.hid hg6; clear hown6 hg6)
      have hs6 := HG6.out.size
      have hbl := owns_block HO.out
      go_roundw
      case rel => exact ⟨k + 1, by omega, by go_num, by rw [DS.out, List.map_append]; exact HO6.out, HG6.out.cell HK0.out (fun e => by have := hbl w.heap.size e.symm; omega), HG6.out.cell HK1.out (fun e => by have := hbl w.heap.size e.symm; omega), HW5.out.grown HG6.out (by omega) (fun j hj => by have := hbl j hj; omega), by omega⟩
      case measure => simp [intOf]; omega
    · have hk' : k = 16 := by omega
      subst hk'
      go_wp2_with fail
      go_ret
      have hl := disL_length L R m 16
      obtain ⟨g, gcap, rfl, _, g1, g2⟩ := owns_shape HO.out (by omega)
      have HO' := HO.out
      refine ⟨g, gcap, ret_slice hl.symm, by omega, g2, ?_, HW.out⟩
      rw [hl]
      exact ⟨HO'.1, HO'.2.imp id fun ⟨g', c', cur, q1, q2, q3⟩ => ⟨g', c', cur, q1, by omega, q3⟩⟩
theorem decL_take {L R : List (List Int)} (h : bookB L R = true) {c : Nat} (hc : c < 16) : (decL L R c).take 2 = L.getD (c / 4) [] ∧ (decL L R c).drop 2 = R.getD (c % 4) [] := by
  have x2 := vecB_len (vecsB_at (bookB_vecs h).1 (show c / 4 < L.length by have := (bookB_len h).1; omega))
  have y2 := vecB_len (vecsB_at (bookB_vecs h).2 (show c % 4 < R.length by have := (bookB_len h).2; omega))
  have ed : decL L R c = L.getD (c / 4) [] ++ R.getD (c % 4) [] := rfl
  refine ⟨?_, ?_⟩
  · rw [ed, List.take_append_of_le_length (by omega)]
    exact List.take_of_length_le (by omega)
  · rw [ed, List.drop_append_of_le_length (by omega), List.drop_of_length_le (by omega)]
    rfl
/-- the code of a decoded vector: not behind the code, and of the same vector -/
theorem enc_own {L R : List (List Int)} (h : bookB L R = true) {c : Nat} (hc : c < 16) : encI L R (decL L R c) ≤ c ∧ decL L R (encI L R (decL L R c)) = decL L R c := by
  obtain ⟨t1, t2⟩ := decL_take h hc
  obtain ⟨l1, l2⟩ := bookB_len h
  obtain ⟨v1, v2⟩ := bookB_vecs h
  have hkL : c / 4 < L.length := by omega
  have hkR : c % 4 < R.length := by omega
  have n1 := near_lt (ll := L) (L.getD (c / 4) []) (by omega)
  have n2 := near_lt (ll := R) (R.getD (c % 4) []) (by omega)
  have s1 := near_self (ll := L) hkL rfl (by have := vecB_len (vecsB_at v1 hkL); have := vecB_len (vecsB_at v1 n1); omega)
  have s2 := near_self (ll := R) hkR rfl (by have := vecB_len (vecsB_at v2 hkR); have := vecB_len (vecsB_at v2 n2); omega)
  have e : encI L R (decL L R c) = near L (L.getD (c / 4) []) * 4 + near R (R.getD (c % 4) []) := by unfold encI; rw [t1, t2]
  rw [e]
  refine ⟨by omega, ?_⟩
  show L.getD ((near L (L.getD (c / 4) []) * 4 + near R (R.getD (c % 4) [])) / 4) [] ++ R.getD ((near L (L.getD (c / 4) []) * 4 + near R (R.getD (c % 4) [])) % 4) [] = _
  rw [show (near L (L.getD (c / 4) []) * 4 + near R (R.getD (c % 4) [])) / 4 = near L (L.getD (c / 4) []) by omega, show (near L (L.getD (c / 4) []) * 4 + near R (R.getD (c % 4) [])) % 4 = near R (R.getD (c % 4) []) by omega, s1.1, s2.1]
  rfl
/-- the distance of a decoded vector: that of its left half and that of its right half -/
theorem dst_halves {x y m : List Int} (hx : x.length = 2) (hy : y.length = 2) : dst 3 (x ++ y) m 4 = dst 3 x (m.take 2) 2 + dst 3 y (m.drop 2) 2 := by
  have g0 : (x ++ y).getD 0 0 = x.getD 0 0 := by rw [List.getD_eq_getElem?_getD, List.getD_eq_getElem?_getD, List.getElem?_append_left (by omega)]
  have g1 : (x ++ y).getD 1 0 = x.getD 1 0 := by rw [List.getD_eq_getElem?_getD, List.getD_eq_getElem?_getD, List.getElem?_append_left (by omega)]
  have g2 : (x ++ y).getD 2 0 = y.getD 0 0 := by rw [List.getD_eq_getElem?_getD, List.getD_eq_getElem?_getD, List.getElem?_append_right (by omega), hx]
  have g3 : (x ++ y).getD 3 0 = y.getD 1 0 := by rw [List.getD_eq_getElem?_getD, List.getD_eq_getElem?_getD, List.getElem?_append_right (by omega), hx]
  have t0 : (m.take 2).getD 0 0 = m.getD 0 0 := by rw [List.getD_eq_getElem?_getD, List.getD_eq_getElem?_getD, List.getElem?_take_of_lt (by omega)]
  have t1 : (m.take 2).getD 1 0 = m.getD 1 0 := by rw [List.getD_eq_getElem?_getD, List.getD_eq_getElem?_getD, List.getElem?_take_of_lt (by omega)]
  have d0 : (m.drop 2).getD 0 0 = m.getD 2 0 := by rw [List.getD_eq_getElem?_getD, List.getD_eq_getElem?_getD, List.getElem?_drop]
  have d1 : (m.drop 2).getD 1 0 = m.getD 3 0 := by rw [List.getD_eq_getElem?_getD, List.getD_eq_getElem?_getD, List.getElem?_drop]
  simp only [dst, dstep_3, g0, g1, g2, g3, t0, t1, d0, d1]
  omega
theorem dis_sum {L R : List (List Int)} {m : List Int} (h : bookB L R = true) (h4 : vecB m 4 = true) {k : Nat} (hk : k < 16) :
    dst 3 (decL L R k) m 4 = sqd (L.getD (k / 4) []) (m.take 2) + sqd (R.getD (k % 4) []) (m.drop 2) ∧ 0 ≤ dst 3 (decL L R k) m 4 ∧ dst 3 (decL L R k) m 4 ≤ 160000 := by
  have x2 := vecB_len (vecsB_at (bookB_vecs h).1 (show k / 4 < L.length by have := (bookB_len h).1; omega))
  have y2 := vecB_len (vecsB_at (bookB_vecs h).2 (show k % 4 < R.length by have := (bookB_len h).2; omega))
  refine ⟨?_, dst_bd 3 (vecB_coords (decL_vec h hk)) (vecB_coords h4) 4⟩
  show dst 3 (L.getD (k / 4) [] ++ R.getD (k % 4) []) m 4 = dst 3 _ _ _ + dst 3 _ _ _
  rw [dst_halves (by omega) (by omega), show (L.getD (k / 4) []).length = 2 by omega, show (R.getD (k % 4) []).length = 2 by omega]
/-- no decoded vector is nearer than that of the code, and no earlier one as near -/
theorem enc_best {L R : List (List Int)} {m : List Int} (h : bookB L R = true) (h4 : vecB m 4 = true) {k : Nat} (hk : k < 16) :
    dst 3 (decL L R (encI L R m)) m 4 ≤ dst 3 (decL L R k) m 4 ∧ (dst 3 (decL L R k) m 4 = dst 3 (decL L R (encI L R m)) m 4 → encI L R m ≤ k) := by
  obtain ⟨n1, n2, n3⟩ := encI_bd h m
  obtain ⟨l1, l2⟩ := bookB_len h
  have e := (dis_sum h h4 n3).1
  have ek := (dis_sum h h4 hk).1
  have q1 : encI L R m / 4 = near L (m.take 2) := by unfold encI; omega
  have q2 : encI L R m % 4 = near R (m.drop 2) := by unfold encI; omega
  rw [q1, q2] at e
  have b1 := best_best L (m.take 2) L.length (k / 4) (by omega)
  have b2 := best_best R (m.drop 2) R.length (k % 4) (by omega)
  change sqd (L.getD (near L (m.take 2)) []) (m.take 2) ≤ _ ∧ (_ = sqd (L.getD (near L (m.take 2)) []) (m.take 2) → near L (m.take 2) ≤ _) at b1
  change sqd (R.getD (near R (m.drop 2)) []) (m.drop 2) ≤ _ ∧ (_ = sqd (R.getD (near R (m.drop 2)) []) (m.drop 2) → near R (m.drop 2) ≤ _) at b2
  rw [e, ek]
  refine ⟨by omega, fun he => ?_⟩
  have c1 := b1.2 (by omega)
  have c2 := b2.2 (by omega)
  omega
theorem disL_get {L R : List (List Int)} {m : List Int} {k n : Nat} (hk : k < n) : (disL L R m n).getD k 0 = dst 3 (decL L R k) m 4 := by
  unfold disL
  rw [List.getD_eq_getElem?_getD, List.getElem?_map, List.getElem?_range hk]
  rfl
/-- halves are coded alone -/
theorem enc_halves {L R : List (List Int)} {m : List Int} (h : bookB L R = true) (h4 : vecB m 4 = true) :
    vecB (m.take 2 ++ [0, 0]) 4 = true ∧ vecB ([0, 0] ++ m.drop 2) 4 = true ∧ encI L R (m.take 2 ++ [0, 0]) / 4 = encI L R m / 4 ∧ encI L R ([0, 0] ++ m.drop 2) % 4 = encI L R m % 4 ∧ encI L R (m.take 2 ++ [0, 0]) < 16 ∧ encI L R ([0, 0] ++ m.drop 2) < 16 := by
  have lt : (m.take 2).length = 2 := by have := vecB_len (vecB_take h4); omega
  have z : vecB [0, 0] 2 = true := by decide
  refine ⟨vecB_app (vecB_take h4) z, vecB_app z (vecB_drop h4), ?_, ?_, (encI_bd h _).2.2, (encI_bd h _).2.2⟩
  · have e : (m.take 2 ++ [0, 0]).take 2 = m.take 2 := by rw [List.take_append_of_le_length (by omega)]; exact List.take_of_length_le (by omega)
    have b1 := encI_bd h m
    have b2 := encI_bd h (m.take 2 ++ [0, 0])
    have q1 : encI L R m = near L (m.take 2) * 4 + near R (m.drop 2) := rfl
    have q2 : encI L R (m.take 2 ++ [0, 0]) = near L ((m.take 2 ++ [0, 0]).take 2) * 4 + near R ((m.take 2 ++ [0, 0]).drop 2) := rfl
    rw [e] at q2
    omega
  · have e : ([0, 0] ++ m.drop 2 : List Int).drop 2 = m.drop 2 := rfl
    have b1 := encI_bd h m
    have b2 := encI_bd h ([0, 0] ++ m.drop 2)
    have q1 : encI L R m = near L (m.take 2) * 4 + near R (m.drop 2) := rfl
    have q2 : encI L R ([0, 0] ++ m.drop 2) = near L (([0, 0] ++ m.drop 2 : List Int).take 2) * 4 + near R (([0, 0] ++ m.drop 2 : List Int).drop 2) := rfl
    rw [e] at b2 q2
    omega
/-- a fresh slice of ints, as its caller reads it -/
def ReadPost (w : World) (l : List Int) (e : Ending) (w' : World) : Prop :=
  ∃ g cap, e = .returned (.slice (some ⟨g, 0, none⟩) l.length cap) ∧ Ints w' 0 w'.heap.size (some ⟨g, 0, none⟩) l ∧ Cap l.length cap ∧ Below w.heap.size w w'
theorem OwnPost.read {w w' : World} {l : List Int} {e : Ending} (hok : ∀ x ∈ l, -9223372036854775808 ≤ x ∧ x ≤ 9223372036854775807) (h : OwnPost w l e w') : ReadPost w l e w' := by
  obtain ⟨g, cap, he, h1, h2, h3, h4⟩ := h
  obtain ⟨a, c, hv, hi⟩ := ints_of_owns h3 hok (by omega)
  simp only [Value.slice.injEq] at hv
  obtain ⟨rfl, _, rfl⟩ := hv
  exact ⟨g, cap, he, hi.wide (Nat.zero_le _) (Nat.le_refl _), ⟨h1, h2⟩, h4⟩
theorem vecB_ok {l : List Int} {n : Int} (h : vecB l n = true) : ∀ x ∈ l, -9223372036854775808 ≤ x ∧ x ≤ 9223372036854775807 := fun x hx => by
  have := coordsB_ok (vecB_coords h) x hx
  omega
theorem implDecodeVector_read (w : World) (lo hi : Nat) (a b : Option Addr) (cap cap' : Nat) (L R : List (List Int)) (c : Nat) (h : Sides w lo hi a b L R) (hv : bookB L R = true) (hc : c < 16) :
    Calls Try.prog 22 #[.agg #[.slice a L.length cap, .slice b R.length cap'], .int .i64 (c : Int)] w (ReadPost w (decL L R c)) :=
  (implDecodeVector_yes w lo hi a b cap cap' L R c h hv hc).mono fun _ _ h => h.read (vecB_ok (decL_vec hv hc))
theorem specDecodeVector_read (w : World) (lo hi : Nat) (a b : Option Addr) (cap cap' : Nat) (L R : List (List Int)) (c : Nat) (h : Sides w lo hi a b L R) (hv : bookB L R = true) (hc : c < 16) :
    Calls Try.prog 24 #[.agg #[.slice a L.length cap, .slice b R.length cap'], .int .i64 (c : Int)] w (ReadPost w (decL L R c)) :=
  (specDecodeVector_yes w lo hi a b cap cap' L R c h hv hc).mono fun _ _ h => h.read (vecB_ok (decL_vec hv hc))
theorem implCodeDistances_read (w : World) (lo hi lo' hi' : Nat) (a b p : Option Addr) (cap cap' capp : Nat) (L R : List (List Int)) (m : List Int) (h : Sides w lo hi a b L R) (hm : Ints w lo' hi' p m) (hv : bookB L R = true) (h4 : vecB m 4 = true) :
    Calls Try.prog 34 #[.agg #[.slice a L.length cap, .slice b R.length cap'], .slice p m.length capp] w (ReadPost w (disL L R m 16)) :=
  (implCodeDistances_yes w lo hi lo' hi' a b p cap cap' capp L R m h hm hv h4).mono fun _ _ h => h.read fun x hx => by have := disL_ok hv h4 (Nat.le_refl _) x hx; omega
theorem specCodeDistances_read (w : World) (lo hi lo' hi' : Nat) (a b p : Option Addr) (cap cap' capp : Nat) (L R : List (List Int)) (m : List Int) (h : Sides w lo hi a b L R) (hm : Ints w lo' hi' p m) (hv : bookB L R = true) (h4 : vecB m 4 = true) :
    Calls Try.prog 35 #[.agg #[.slice a L.length cap, .slice b R.length cap'], .slice p m.length capp] w (ReadPost w (disL L R m 16)) :=
  (specCodeDistances_yes w lo hi lo' hi' a b p cap cap' capp L R m h hm hv h4).mono fun _ _ h => h.read fun x hx => by have := disL_ok hv h4 (Nat.le_refl _) x hx; omega
end Go.Proofs.Ytnfjbjlcglfabaa
