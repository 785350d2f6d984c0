/-
  The walks of probed, and of what looks whether a number is in a list.
-/
import Derived.Test.YtmpoljhdcgdnnaaProbedPlain
import Derived.Test.YtmpoljhdcgdnnaaProbeTops
import Derived.Test.YtmpoljhdcgdnnaaQueryWalks
import Derived.Test.YtmpoljhdcgdnnaaItemOwn
namespace Go.Proofs.Ytmpoljhdcgdnnaa
open Go.RowKit
set_option linter.unusedVariables false

set_option maxHeartbeats 1000000 in
theorem specIsIn (w : World) (lo hi : Nat) (a : Option Addr) (cap : Nat) (l : List Int) (x : Int) (h : Ints w lo hi a l) :
    Calls Try.prog 57 #[.slice a l.length cap, .int .i64 x] w fun e w' => e = .returned (.bool (l.contains x)) ∧ w = w' := by
  have hlen := h.len
  go_enter Try.func57, Try.ntmps57
  go_wp2_with fail
  go_loop [5] (fun i => ∃ k : Nat, k ≤ l.length ∧ i = .int .i64 (k : Int) ∧ Hid (∀ j, j < k → l.getD j 0 ≠ x)) (fun i => l.length - (intOf i).toNat)
  case atStart => exact ⟨0, Nat.zero_le _, rfl, fun j hj => absurd hj (Nat.not_lt_zero _)⟩
  case round =>
    obtain ⟨k, hk, rfl, HN⟩ := hrel
    by_cases hlt : k < l.length
    · obtain ⟨b, off, rfl, _, _, hc, _⟩ := h.at_ hlt
      have HM := Lib.hid (getD_mem (l := l) (0 : Int) hlt)
      have HK := Lib.hid fun (hx : ¬ l.getD k 0 = x) (j : Nat) (hj : j < k + 1) => (show l.getD j 0 ≠ x from by
        by_cases hjk : j = k
        · subst hjk; exact hx
        · exact HN.out j (by omega))
      obtain ⟨y, ey⟩ : ∃ y, l.getD k 0 = y := ⟨_, rfl⟩
      rw [ey] at hc HM HK
      clear ey
      have hki : (k : Int) < l.length := by omega
      by_cases hxy : y = x
      · subst hxy
        have hb : (y == y) = true := beq_self_eq_true _
        go_wp2_with fail
        go_ret
        exact ⟨ret_bool (by have := HM.out; simpa using this), rfl⟩
      · have hb : (y == x) = false := by rw [beq_eq_false_iff_ne]; exact hxy
        have hb' : (x == y) = false := by rw [beq_eq_false_iff_ne]; exact fun e => hxy e.symm
        have HK2 := Lib.hid (HK.out hxy)
        clear hxy HK
        go_wp2_with fail
        go_round
        case rel => exact ⟨k + 1, by omega, by go_num, HK2.out⟩
        case measure => simp [intOf]; omega
    · have hke : k = l.length := by omega
      subst hke
      have HNO : Hid (l.contains x = false) := Lib.hid (by
        rw [← Bool.not_eq_true]
        intro hc
        have hm : x ∈ l := by simpa using hc
        obtain ⟨i, hi, he⟩ := List.getElem_of_mem hm
        exact HN.out i hi (by rw [List.getD_eq_getElem?_getD, List.getElem?_eq_getElem hi, he]; rfl))
      go_wp2_with fail
      go_ret
      exact ⟨ret_bool (by have h := HNO.out; symm; simpa using h), rfl⟩
def IdxPost (w : World) (l : List Int) (x : Int) (e : Ending) (w' : World) : Prop := ∃ i : Int, e = .returned (.int .i64 i) ∧ decide (0 ≤ i) = l.contains x ∧ w = w'
set_option maxHeartbeats 1000000 in
theorem indexInt_any (w : World) (lo hi : Nat) (a : Option Addr) (cap : Nat) (l : List Int) (x : Int) (h : Ints w lo hi a l) :
    Calls Try.prog 101 #[.slice a l.length cap, .int .i64 x] w (IdxPost w l x) := by
  have hlen := h.len
  go_enter Try.func101, Try.ntmps101
  go_wp2_with fail
  go_loop [8] (fun i => ∃ k : Nat, k ≤ l.length ∧ i = .int .i64 (k : Int) ∧ Hid (∀ j, j < k → l.getD j 0 ≠ x)) (fun i => l.length - (intOf i).toNat)
  case atStart => exact ⟨0, Nat.zero_le _, rfl, fun j hj => absurd hj (Nat.not_lt_zero _)⟩
  case round =>
    obtain ⟨k, hk, rfl, HN⟩ := hrel
    by_cases hlt : k < l.length
    · obtain ⟨b, off, rfl, _, _, hc, _⟩ := h.at_ hlt
      have HM := Lib.hid (getD_mem (l := l) (0 : Int) hlt)
      have HK := Lib.hid fun (hx : ¬ l.getD k 0 = x) (j : Nat) (hj : j < k + 1) => (show l.getD j 0 ≠ x from by
        by_cases hjk : j = k
        · subst hjk; exact hx
        · exact HN.out j (by omega))
      obtain ⟨y, ey⟩ : ∃ y, l.getD k 0 = y := ⟨_, rfl⟩
      rw [ey] at hc HM HK
      clear ey
      have hki : (k : Int) < l.length := by omega
      by_cases hxy : y = x
      · subst hxy
        have hb : (y == y) = true := beq_self_eq_true _
        go_wp2_with fail
        go_ret
        exact ⟨(k : Int), rfl, by have := HM.out; rw [decide_eq_true (show (0 : Int) ≤ (k : Int) by omega)]; symm; simpa using this, rfl⟩
      · have hb : (y == x) = false := by rw [beq_eq_false_iff_ne]; exact hxy
        have hb' : (x == y) = false := by rw [beq_eq_false_iff_ne]; exact fun e => hxy e.symm
        have HK2 := Lib.hid (HK.out hxy)
        clear hxy HK
        go_wp2_with fail
        go_round
        case rel => exact ⟨k + 1, by omega, by go_num, HK2.out⟩
        case measure => simp [intOf]; omega
    · have hke : k = l.length := by omega
      subst hke
      have HNO : Hid (l.contains x = false) := Lib.hid (by
        rw [← Bool.not_eq_true]
        intro hc
        have hm : x ∈ l := by simpa using hc
        obtain ⟨i, hi, he⟩ := List.getElem_of_mem hm
        exact HN.out i hi (by rw [List.getD_eq_getElem?_getD, List.getElem?_eq_getElem hi, he]; rfl))
      go_wp2_with fail
      go_ret
      exact ⟨-1, rfl, by rw [HNO.out]; rfl, rfl⟩
set_option maxHeartbeats 1000000 in
theorem containsInt_any (w : World) (lo hi : Nat) (a : Option Addr) (cap : Nat) (l : List Int) (x : Int) (h : Ints w lo hi a l) :
    Calls Try.prog 83 #[.slice a l.length cap, .int .i64 x] w fun e w' => e = .returned (.bool (l.contains x)) ∧ w = w' := by
  have IX := Lib.hid (indexInt_any w lo hi a cap l x h)
  obtain ⟨c, ec⟩ : ∃ c, l.contains x = c := ⟨_, rfl⟩
  unfold IdxPost at IX
  rw [ec] at IX ⊢
  clear ec h
  go_enter Try.func83, Try.ntmps83
  go_wp2_with fail
  refine IX.out.mono ?_
  rintro e w2 ⟨i, rfl, hi, rfl⟩
  go_wp2_with fail
  go_ret
  exact ⟨rfl, rfl⟩
/-- cells of items whose vectors lie elsewhere -/
def RwsIR (w : World) (lo hi : Nat) (vs : List Value) (ll : List It) : Prop :=
  vs.length = ll.length * 3 ∧ ∀ j, j < ll.length → ∃ aj cj, vs[j * 3]? = some (.int .i64 (ll.getD j It.no).key) ∧ vs[j * 3 + 1]? = some (.slice aj (ll.getD j It.no).pos.length cj) ∧ vs[j * 3 + 2]? = some (.int .i64 (ll.getD j It.no).tags) ∧ ItV w lo hi (ll.getD j It.no) aj cj
theorem rwsIR_nil (w : World) (lo hi : Nat) : RwsIR w lo hi [] [] := ⟨rfl, fun j hj => by simp at hj⟩
theorem RwsIR.upd {w w' : World} {lo hi lo' hi' : Nat} {vs : List Value} {ll : List It} (h : RwsIR w lo hi vs ll) (u : Upd lo' hi' w w') (hd : hi ≤ lo' ∨ hi' ≤ lo ∨ hi' ≤ lo') : RwsIR w' lo hi vs ll :=
  ⟨h.1, fun j hj => by
    obtain ⟨aj, cj, h1, h2, h3, h4⟩ := h.2 j hj
    exact ⟨aj, cj, h1, h2, h3, h4.upd u hd⟩⟩
theorem RwsIR.snoc {w : World} {lo hi : Nat} {vs : List Value} {ll : List It} (h : RwsIR w lo hi vs ll) {x : It} {a : Option Addr} {c : Nat} (hx : ItV w lo hi x a c) : RwsIR w lo hi (vs ++ itCells x a c) (ll ++ [x]) := by
  have hl := h.1
  refine ⟨by simp [h.1, itCells]; omega, fun j hj => ?_⟩
  by_cases hlt : j < ll.length
  · obtain ⟨aj, cj, h1, h2, h3, h4⟩ := h.2 j hlt
    rw [getD_app_left _ hlt]
    exact ⟨aj, cj, by rw [List.getElem?_append_left (by omega)]; exact h1, by rw [List.getElem?_append_left (by omega)]; exact h2, by rw [List.getElem?_append_left (by omega)]; exact h3, h4⟩
  · have hjl : j = ll.length := by simp at hj; omega
    subst hjl
    have e : (ll ++ [x]).getD ll.length It.no = x := by rw [List.getD_eq_getElem?_getD, List.getElem?_append_right (Nat.le_refl _)]; simp
    rw [e]
    exact ⟨a, c, by rw [List.getElem?_append_right (by omega), show ll.length * 3 - vs.length = 0 by omega]; rfl, by rw [List.getElem?_append_right (by omega), show ll.length * 3 + 1 - vs.length = 1 by omega]; rfl, by rw [List.getElem?_append_right (by omega), show ll.length * 3 + 2 - vs.length = 2 by omega]; rfl, hx⟩
theorem items_of_vals {w : World} {base lo hi : Nat} {v : Value} {vs : List Value} {ll : List It} {n : Nat} (hown : w.ownsRow base 74 3 v n vs) (hr : RwsIR w lo hi vs ll) (hn : n ≤ 9223372036854775807) (hlo : lo ≤ base) (hh : w.heap.size ≤ hi) :
    n = ll.length ∧ ∃ a cap, v = .slice a ll.length cap ∧ Items w lo hi a ll ∧ Cap ll.length cap := by
  have hnl : n = ll.length := by have h1 := hown.1; have h2 := hr.1; omega
  subst hnl
  refine ⟨rfl, ?_⟩
  obtain ⟨a, cap, rfl, hc⟩ := owns_form hown
  refine ⟨a, cap, rfl, ⟨fun hne => ?_, hn⟩, hc⟩
  have h1 : 1 ≤ ll.length := List.length_pos_iff.2 hne
  rcases hown.2 with ⟨hv, h0⟩ | ⟨g, cap', cur, hv, hb, hg, _⟩
  · omega
  · simp only [Value.slice.injEq] at hv
    obtain ⟨rfl, _, rfl⟩ := hv
    refine ⟨g, 0, rfl, by omega, Nat.lt_of_lt_of_le (Array.getElem?_eq_some_iff.1 hg).1 hh, fun j hj => ?_⟩
    obtain ⟨aj, cj, k0, k1, k2, k3⟩ := hr.2 j hj
    have e0 := hown.cellAt (j * 3) (by omega)
    have e1 := hown.cellAt (j * 3 + 1) (by omega)
    have e2 := hown.cellAt (j * 3 + 2) (by omega)
    exact ⟨aj, cj, by rw [Nat.zero_add, e0, k0], by rw [Nat.zero_add, e1, k1], by rw [Nat.zero_add, e2, k2], k3⟩
/-- items that the caller reads -/
def ReadItems (w : World) (ll : List It) (e : Ending) (w' : World) : Prop :=
  ∃ a cap, e = .returned (.slice a ll.length cap) ∧ Items w' 0 w'.heap.size a ll ∧ Cap ll.length cap ∧ Below w.heap.size w w'
theorem Items.all {w : World} {lo hi : Nat} {a : Option Addr} {ll : List It} (h : Items w lo hi a ll) : Items w 0 w.heap.size a ll := by
  refine ⟨fun hne => ?_, h.len⟩
  obtain ⟨b, off, ha, _, _, h3⟩ := h.cells hne
  obtain ⟨aj, cj, h4, _⟩ := h3 0 (List.length_pos_iff.2 hne)
  refine ⟨b, off, ha, Nat.zero_le _, World.block_lt_of_cell? w _ h4, fun j hj => ?_⟩
  obtain ⟨aj, cj, h4, h5, h6, h7, h8⟩ := h3 j hj
  exact ⟨aj, cj, h4, h5, h6, h7.all, h8⟩
theorem selI_zero (cs : List (List Int)) (L : List Int) (ll : List It) : selI cs L (ll.take 0) = [] := rfl
set_option maxHeartbeats 2000000 in
theorem probed_any (w : World) (lo hi lo' hi' l3 h3 : Nat) (a b p : Option Addr) (cap cap' capm k : Nat) (cs : List (List Int)) (ll : List It) (m : List Int) (hA : Lists w lo hi a cs) (hI : Items w lo' hi' b ll) (hM : Ints w l3 h3 p m) (hv : cenB cs 4 = true) (hs : storeB ll = true) (hm : vecB m 4 = true) (hk1 : 1 ≤ k) (hk4 : k ≤ 4) :
    Calls Try.prog 52 #[.slice a cs.length cap, .slice b ll.length cap', .slice p m.length capm, .int .i64 (k : Int)] w (ReadItems w (prdI cs m k ll)) := by
  have HV := Lib.hid (csB_mk hv hs)
  have hl16 := storeB_len hs
  have hlc := (cenB_len hv).1
  have hlc4 := (cenB_len hv).2
  have PI := Lib.hid (implProbeIn w _ _ _ _ a p cap capm k cs m hA.all hM.all (Nat.le_refl _) (Nat.le_refl _) hv hm hk1 hk4)
  have HLO := Lib.hid (prbL_bd cs m k)
  have HLL := Lib.hid (prbL_length cs m k)
  have HPR : Hid (prdI cs m k ll = selI cs (prbL cs m k) (ll.take ll.length)) := Lib.hid (by rw [List.take_length]; rfl)
  obtain ⟨L, eL⟩ : ∃ L, prbL cs m k = L := ⟨_, rfl⟩
  rw [eL] at PI HLO HLL HPR
  clear eL hv hs hm
  go_enter Try.func52, Try.ntmps52
  go_wp2_with fail
  refine PI.out.mono ?_
  rintro e w1 ⟨g, gc, rfl, ho1, hb1⟩
  have hll : L.length ≤ 4 := by have := HLL.out; omega
  have HG := Lib.hid (owns_mark ho1 (fun x hx => by have := HLO.out x hx; omega) (by omega)).2.1
  replace hA := hA.below hb1
  replace hI := hI.below hb1
  have HA := Lib.hid hA
  have HI := Lib.hid hI
  have HB := Lib.hid hb1
  have hs1 := hb1.size
  have HE := Lib.hid (owns_empty w1 w1.heap.size 74 3 (Nat.le_refl _))
  have HIA := Lib.hid hI.all
  clear ho1 hb1 hA hI hM
  go_wp2_with fail
  go_loopw [10, 20] (fun v i wr => ∃ (j n : Nat) (vs : List Value), j ≤ ll.length ∧ n ≤ j ∧ i = .int .i64 (j : Int) ∧ Hid (wr.ownsRow w1.heap.size 74 3 v n vs ∧ RwsIR wr 0 w1.heap.size vs (selI cs L (ll.take j))) ∧ Hid (Below w1.heap.size w1 wr)) (fun _ i _ => ll.length - (intOf i).toNat)
  case atStart => exact ⟨0, 0, [], Nat.zero_le _, Nat.le_refl _, rfl, Lib.hid ⟨HE.out, rwsIR_nil _ _ _⟩, Lib.hid (below_alloc _ _)⟩
  case round =>
    obtain ⟨j, n, vs, hj, hnj, rfl, HO, HW⟩ := hrel
    have hsr := HW.out.size
    by_cases hlt : j < ll.length
    · obtain ⟨bb, off, rfl, _, _, aj, cj, c0, c1, c2, hx, hcj, hk1', hk2'⟩ := (HIA.out.below HW.out).at_ hlt
      have VX := Lib.hid (storeB_vec (csB_store HV.out) hlt)
      have HS := Lib.hid (selI_succ cs L hlt)
      obtain ⟨x, ex⟩ : ∃ x, ll.getD j It.no = x := ⟨_, rfl⟩
      rw [ex] at c0 c1 c2 hx hcj hk1' hk2' VX HS
      have HITV : Hid (ItV wr 0 w1.heap.size x aj cj) := Lib.hid ⟨hx, hcj, hk1', hk2'⟩
      have HN := Lib.hid (near_lt (ll := cs) x.pos hlc)
      have hb := below_alloc wr (.cells #[.int .i64 x.key, .slice aj x.pos.length cj, .int .i64 x.tags] 74)
      have HZ := Lib.hid (heap_alloc_new wr (.cells #[.int .i64 x.key, .slice aj x.pos.length cj, .int .i64 x.tags] 74))
      have HR := Lib.hid (rowsOk_of (cenB_vecs (csB_cen HV.out)) VX.out (by omega))
      have C := Lib.hid (implCentreOfIn _ _ _ _ _ _ _ cap cj cs x.pos ((HA.out.below HW.out).below hb) (hx.below hb) HR.out (vecB_coords VX.out) hlc)
      obtain ⟨q, eq⟩ : ∃ q, near cs x.pos = q := ⟨_, rfl⟩
      rw [eq] at C HS HN
      have hq4 : q < 4 := by have := HN.out; omega
      have HB1 := Lib.hid hb
      have hji : (j : Int) < ll.length := by omega
      obtain ⟨W1, hW1⟩ : ∃ W1, wr.alloc (.cells #[.int .i64 x.key, .slice aj x.pos.length cj, .int .i64 x.tags] 74) = W1 := ⟨_, rfl⟩
      rw [hW1] at C HB1 HZ
      have d0 := cells3_0 HZ.out
      have d1 := cells3_1 HZ.out
      have d2 := cells3_2 HZ.out
      clear ex eq hb hx hcj hk1' hk2'
      go_wp2_with fail
      clear c0 c1 c2 hW1
      refine C.out.mono ?_
      rintro e w3 ⟨rfl, hd⟩
      have e0 := hd.cell d0
      have e1 := hd.cell d1
      have e2 := hd.cell d2
      have HX3 : Hid (Below wr.heap.size wr w3) := Lib.hid (HB1.out.trans hd.below)
      have hs3 := HX3.out.size
      have HO3 := Lib.hid (owns_upd HO.out.1 (Upd.of_below (lo := 0) (hi := 0) HX3.out) (by omega))
      have CT := Lib.hid (containsInt_any w3 _ _ g gc L (q : Int) ((HG.out.below (HW.out.trans (HX3.out.mono hsr)))))
      have HSEL := HS
      cases hc : L.contains (q : Int)
      · rw [hc] at CT HSEL
        clear hd d0 d1 d2 hc
        go_wp2_with fail
        refine CT.out.mono ?_
        rintro e w4 ⟨rfl, rfl⟩
        go_wp2_with fail
        go_roundw
        case rel => exact ⟨j + 1, n, vs, by omega, by omega, by go_num, Lib.hid ⟨HO3.out, by rw [HSEL.out, if_neg (by simp), List.append_nil]; exact HO.out.2.upd (Upd.of_below (lo := 0) (hi := 0) HX3.out) (by omega)⟩, Lib.hid (HW.out.trans (HX3.out.mono hsr))⟩
        case measure => simp [intOf]; omega
      · rw [hc] at CT HSEL
        clear hd d0 d1 d2 hc
        go_wp2_with fail
        refine CT.out.mono ?_
        rintro e w4 ⟨rfl, rfl⟩
        go_wp2_with (at_builtin; refine append1 rfl _ _ 24 rfl w1.heap.size 74 Try.underlying24 infoItem rfl (by omega) (by omega) _ n vs rfl HO3.out (itCells x aj cj) rfl rfl (itCells_one x aj cj) (by omega) (by omega) ?_; intro v' w6 hown6 hg6; have HO6 := Lib.hid hown6; have HG6 := Lib.hid hg6; clear hown6 hg6)
        have HX6 : Hid (Below w1.heap.size w1 w6) := Lib.hid ((HW.out.trans (HX3.out.mono hsr)).grown HG6.out (by omega) (owns_block HO3.out))
        have U6 : Hid (Upd w1.heap.size w6.heap.size wr w6) := Lib.hid ⟨HG6.out.os.trans HX3.out.os, HG6.out.tape.trans HX3.out.tape, HG6.out.output.trans HX3.out.output, Nat.le_trans hs3 HG6.out.size, fun z hz hd => by
          rcases hd with hd | hd
          · rw [HG6.out.block z (by omega) (fun e => by have := owns_block HO3.out z e.symm; omega)]
            exact HX3.out.block z hz
          · have := HG6.out.size; omega⟩
        go_roundw
        case rel => exact ⟨j + 1, n + 1, _, by omega, by omega, by go_num, Lib.hid ⟨HO6.out, by rw [HSEL.out, if_pos (by simp)]; exact (HO.out.2.upd U6.out (by omega)).snoc (HITV.out.upd U6.out (by omega))⟩, HX6⟩
        case measure => simp [intOf]; omega
    · have hje : j = ll.length := by omega
      subst hje
      have hbb := HB.out
      obtain ⟨hn, a6, c6, hv6, hi6, hc6⟩ := items_of_vals HO.out.1 (by have := HO.out.2; exact ⟨this.1, fun j hj => by obtain ⟨aj, cj, q1, q2, q3, q4⟩ := this.2 j hj; exact ⟨aj, cj, q1, q2, q3, q4.wide (Nat.le_refl _) hsr⟩⟩) (by omega) (Nat.zero_le _) (Nat.le_refl _)
      subst hv6
      have HF := Lib.hid (And.intro hi6 hc6)
      clear hi6 hc6
      go_wp2_with fail
      go_ret
      rw [HPR.out]
      exact ⟨a6, c6, rfl, HF.out.1, HF.out.2, HB.out.trans (HW.out.mono hs1)⟩
end Go.Proofs.Ytmpoljhdcgdnnaa
