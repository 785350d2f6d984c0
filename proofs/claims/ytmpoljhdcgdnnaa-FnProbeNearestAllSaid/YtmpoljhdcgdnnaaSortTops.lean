/-
  The walks of the program's sorting of the numbers of centres. slices.SortStableFunc at the numbers of centres.
-/
import Derived.Test.YtmpoljhdcgdnnaaSortPlain
import Derived.Test.YtmpoljhdcgdnnaaDistWalks
import Derived.Test.YtmpoljhdcgdnnaaOwn
namespace Go.Proofs.Ytmpoljhdcgdnnaa
open Go.RowKit
set_option linter.unusedVariables false

theorem isNaN_any (w : World) (a : Int) : Calls Try.prog 106 #[.int .i64 a] w fun e w' => e = .returned (.bool false) ∧ w = w' := by
  have h : (a != a) = false := by simp
  go_enter Try.func106, Try.ntmps106
  go_wp2_with fail
  go_ret
  exact ⟨rfl, rfl⟩
set_option maxHeartbeats 400000 in
theorem compare_any (w : World) (a b : Int) : Calls Try.prog 91 #[.int .i64 a, .int .i64 b] w fun e w' => e = .returned (.int .i64 (cmpI a b)) ∧ w = w' := by
  by_cases h1 : a < b
  · have e : cmpI a b = -1 := by unfold cmpI; rw [if_pos h1]
    have d1 : decide (a < b) = true := decide_eq_true h1
    go_enter Try.func91, Try.ntmps91
    go_wp2_with (go_at_call 106; refine (isNaN_any _ _).mono ?_; rintro e w' ⟨rfl, rfl⟩)
    go_ret
    exact ⟨ret_int e.symm, rfl⟩
  · have d1 : decide (a < b) = false := decide_eq_false h1
    by_cases h2 : b < a
    · have e : cmpI a b = 1 := by unfold cmpI; rw [if_neg h1, if_pos h2]
      have d2 : decide (b < a) = true := decide_eq_true h2
      go_enter Try.func91, Try.ntmps91
      go_wp2_with (go_at_call 106; refine (isNaN_any _ _).mono ?_; rintro e w' ⟨rfl, rfl⟩)
      go_ret
      exact ⟨ret_int e.symm, rfl⟩
    · have e : cmpI a b = 0 := by unfold cmpI; rw [if_neg h1, if_neg h2]
      have d2 : decide (b < a) = false := decide_eq_false h2
      go_enter Try.func91, Try.ntmps91
      go_wp2_with (go_at_call 106; refine (isNaN_any _ _).mono ?_; rintro e w' ⟨rfl, rfl⟩)
      go_ret
      exact ⟨ret_int e.symm, rfl⟩
/-- what the closure has caught: the centres and the vector -/
def Caught (w : World) (G P Q : Nat) (a b : Option Addr) (cap capm : Nat) (cs : List (List Int)) (m : List Int) : Prop :=
  w.cell? ⟨P, 0, none⟩ = some (.slice a cs.length cap) ∧ w.cell? ⟨Q, 0, none⟩ = some (.slice b m.length capm) ∧ P < G ∧ Q < G ∧ Lists w 0 G a cs ∧ Ints w 0 G b m
theorem Caught.upd {w w' : World} {G P Q : Nat} {a b : Option Addr} {cap capm : Nat} {cs : List (List Int)} {m : List Int} (h : Caught w G P Q a b cap capm cs m) {hi : Nat} (u : Upd G hi w w') : Caught w' G P Q a b cap capm cs m := by
  obtain ⟨h1, h2, h3, h4, h5, h6⟩ := h
  exact ⟨u.cell h1 (.inl h3), u.cell h2 (.inl h4), h3, h4, h5.upd u (.inl (Nat.le_refl _)), h6.upd u (.inl (Nat.le_refl _))⟩
theorem Caught.drawn {w w' : World} {G P Q : Nat} {a b : Option Addr} {cap capm : Nat} {cs : List (List Int)} {m : List Int} (h : Caught w G P Q a b cap capm cs m) (d : Drawn w w') : Caught w' G P Q a b cap capm cs m := h.upd (hi := G) d.upd
set_option maxHeartbeats 1000000 in
theorem cmpCentres (w : World) (G P Q : Nat) (a b : Option Addr) (cap capm : Nat) (cs : List (List Int)) (m : List Int) (i j : Nat) (h : Caught w G P Q a b cap capm cs m) (hv : cenB cs 4 = true) (hm : vecB m 4 = true) (hi : i < cs.length) (hj : j < cs.length) :
    Calls Try.prog 90 #[.int .i64 (i : Int), .int .i64 (j : Int), .pointer (some ⟨P, 0, none⟩), .pointer (some ⟨Q, 0, none⟩)] w fun e w' => e = .returned (.int .i64 (cmpI (dst 3 (cs.getD i []) m 4) (dst 3 (cs.getD j []) m 4))) ∧ Drawn w w' := by
  obtain ⟨hP, hQ, _, _, hA, hB⟩ := h
  obtain ⟨p, off, ai, ci, rfl, _, _, hci, hxi⟩ := hA.at_ hi
  obtain ⟨p', off', aj, cj, he, _, _, hcj, hxj⟩ := hA.at_ hj
  simp only [Option.some.injEq, Addr.mk.injEq] at he
  obtain ⟨rfl, rfl, _⟩ := he
  have VI := cenB_at hv hi
  have VJ := cenB_at hv hj
  obtain ⟨x, ex⟩ : ∃ x, cs.getD i [] = x := ⟨_, rfl⟩
  obtain ⟨y, ey⟩ : ∃ y, cs.getD j [] = y := ⟨_, rfl⟩
  rw [ex] at hci hxi VI ⊢
  rw [ey] at hcj hxj VJ ⊢
  have hx4 : x.length = 4 := by have := vecB_len VI; omega
  have hy4 : y.length = 4 := by have := vecB_len VJ; omega
  have hm4 : m.length = 4 := by have := vecB_len hm; omega
  have D1 := Lib.hid fun n : Nat => implDistance (w.drewN n) _ _ _ _ _ _ ci capm x m 3 (hxi.drawn ⟨n, rfl⟩) (hB.drawn ⟨n, rfl⟩) (vecB_coords VI) (vecB_coords hm) (by omega) (by omega)
  have D2 := Lib.hid fun n : Nat => implDistance (w.drewN n) _ _ _ _ _ _ cj capm y m 3 (hxj.drawn ⟨n, rfl⟩) (hB.drawn ⟨n, rfl⟩) (vecB_coords VJ) (vecB_coords hm) (by omega) (by omega)
  rw [hx4, hm4] at D1
  rw [hy4, hm4] at D2
  rw [hx4] at hci
  rw [hy4] at hcj
  rw [hm4] at hQ
  obtain ⟨d1, e1⟩ : ∃ d, dst 3 x m 4 = d := ⟨_, rfl⟩
  obtain ⟨d2, e2⟩ : ∃ d, dst 3 y m 4 = d := ⟨_, rfl⟩
  rw [e1] at D1 ⊢
  rw [e2] at D2 ⊢
  have D3 := Lib.hid fun n : Nat => calls_drawn (compare_any (w.drewN n) d1 d2)
  have hii : (i : Int) < cs.length := by omega
  have hji : (j : Int) < cs.length := by omega
  clear ex ey e1 e2 VI VJ hx4 hy4 hm4 hxi hxj hA hB hv hm
  go_enter Try.func90, Try.ntmps90
  go_wp2_with fail
  go_quiet ((first | (go_at_call 70; first | (with_reducible exact quiet_drawn (D1.out _)) | (with_reducible exact quiet_drawn (D2.out _))) | (go_at_call 91; exact quiet_drawn (D3.out _))))
  go_wp2_with fail
  go_ret
  exact ⟨rfl, ⟨_, rfl⟩⟩
theorem intsAt {l : List Int} {j : Nat} (hj : j < l.length) : (l.map (Value.int .i64))[j]? = some (.int .i64 (l.getD j 0)) := by
  rw [List.getElem?_map, List.getElem?_eq_getElem hj, List.getD_eq_getElem?_getD, List.getElem?_eq_getElem hj]; rfl
def SortedTo (w : World) (G c n : Nat) (l : List Int) (e : Ending) (w' : World) : Prop :=
  e = .returned (.tuple #[]) ∧ w'.ownsRow G 3 1 (.slice (some ⟨G, 0, none⟩) n c) n (l.map (Value.int .i64)) ∧ Upd G (G + 1) w w' ∧ w'.heap.size = w.heap.size
set_option maxHeartbeats 2000000 in
theorem insertSort (w : World) (G P Q : Nat) (a b : Option Addr) (cap capm c n : Nat) (cs : List (List Int)) (m : List Int) (h : Caught w G P Q a b cap capm cs m) (hv : cenB cs 4 = true) (hm : vecB m 4 = true) (hn : cs.length = n)
    (ho : w.ownsRow G 3 1 (.slice (some ⟨G, 0, none⟩) n c) n ((datI cs m n 1).map (Value.int .i64))) :
    Calls Try.prog 111 #[.slice (some ⟨G, 0, none⟩) n c, .int .i64 0, .int .i64 (n : Int), .func (.func 90) #[] #[.pointer (some ⟨P, 0, none⟩), .pointer (some ⟨Q, 0, none⟩)]] w (SortedTo w G c n (keyT cs m n)) := by
  have H := Lib.hid h
  have HV := Lib.hid (And.intro hv hm)
  have HO := Lib.hid ho
  have HN := Lib.hid hn
  have hn4 : n ≤ 4 := by have := (cenB_len hv).2; omega
  have hn1 : 1 ≤ n := by have := (cenB_len hv).1; omega
  clear h hv hm ho hn
  go_enter Try.func111, Try.ntmps111
  go_wp2_with fail
  go_loopw [8] (fun i wr => ∃ k : Nat, 1 ≤ k ∧ k ≤ n ∧ i = .int .i64 (k : Int) ∧ Hid (wr.ownsRow G 3 1 (.slice (some ⟨G, 0, none⟩) n c) n ((datI cs m n k).map (Value.int .i64))) ∧ Hid (Upd G (G + 1) w wr ∧ wr.heap.size = w.heap.size)) (fun i _ => n - (intOf i).toNat)
  case atStart => exact ⟨1, Nat.le_refl _, hn1, rfl, HO.out, Upd.refl _ _ _, rfl⟩
  case round =>
    obtain ⟨k, hk1, hk, rfl, HO, HU⟩ := hrel
    by_cases hlt : k < n
    · have HJ0 := Lib.hid (datI_J (cs := cs) (m := m) hlt)
      have hki : (k : Int) < n := by omega
      rename World => wo
      go_wp2_with fail
      go_loopw [9] (fun i wr => ∃ j : Nat, j ≤ k ∧ i = .int .i64 (j : Int) ∧ Hid (wr.ownsRow G 3 1 (.slice (some ⟨G, 0, none⟩) n c) n ((datJ cs m n k j).map (Value.int .i64))) ∧ Hid (Upd G (G + 1) w wr ∧ wr.heap.size = w.heap.size) ∧ Hid (∀ q, j ≤ q → q < k → dst 3 (cs.getD k []) m 4 < ((srtT cs m k).getD q Ht.no).dist)) (fun i _ => (intOf i).toNat)
      case atStart => exact ⟨k, Nat.le_refl _, rfl, by rw [← HJ0.out]; exact HO.out, HU.out, fun q q1 q2 => absurd q1 (by omega)⟩
      case round =>
        obtain ⟨j, hj, rfl, HP, HW, HG⟩ := hrel
        by_cases hj0 : j = 0
        · subst hj0
          have HST := Lib.hid (datJ_stop (n := n) (Nat.zero_le k) HG.out (.inl rfl))
          go_wp2_with fail
          go_quiet (fail)
          go_wp2_with fail
          go_roundw
          case rel => exact ⟨k + 1, by omega, by omega, by go_num, owns_upd (by rw [← HST.out]; exact HP.out) (Drawn.upd (lo := 0) (hi := 0) ⟨_, rfl⟩) (by omega), HW.out.1.trans (Drawn.upd ⟨_, rfl⟩), HW.out.2⟩
          case measure => simp [intOf]; omega
        · obtain ⟨q, rfl⟩ : ∃ q, j = q + 1 := ⟨j - 1, by omega⟩
          obtain ⟨p, hp1, hp2, hp3⟩ := keyT_get (cs := cs) (m := m) (show q < k by omega)
          have hlen := datJ_length (cs := cs) (m := m) hlt hj
          have c1 := HP.out.cellAt (q + 1) (by omega)
          rw [intsAt (by omega), datJ_at hj] at c1
          have c0 := HP.out.cellAt q (by omega)
          rw [intsAt (by omega), datJ_pre hj, hp2] at c0
          have f1 := HP.out.frozenAt (q + 1)
          have f0 := HP.out.frozenAt q
          have HSW := Lib.hid (datJ_swap (cs := cs) (m := m) (n := n) hj)
          have C := Lib.hid fun t : Nat => cmpCentres (wr.drewN t) G P Q a b cap capm cs m k p ((H.out.upd HW.out.1).drawn ⟨t, rfl⟩) HV.out.1 HV.out.2 (by rw [HN.out]; exact hlt) (by rw [HN.out]; omega)
          have HP3 := Lib.hid hp3
          have HSR := Lib.hid (srtT_length cs m k)
          rw [hp2] at HSW
          have HGG := HG
          obtain ⟨dk, ek⟩ : ∃ d, dst 3 (cs.getD k []) m 4 = d := ⟨_, rfl⟩
          obtain ⟨dp, ep⟩ : ∃ d, dst 3 (cs.getD p []) m 4 = d := ⟨_, rfl⟩
          have HEK := Lib.hid ek
          have HEP := Lib.hid ep
          rw [ek, ep] at C
          have hqn : (q : Int) + 1 < n := by omega
          have hqn0 : (q : Int) < n := by omega
          have hwq : IntKind.i64.wrap (q : Int) = (q : Int) := wrap_in (by omega)
          have hg0 : decide ((0 : Int) < (q : Int) + 1) = true := decide_eq_true (by omega)
          clear ek ep hp2 hp3 hlen HG
          by_cases hd : dk < dp
          · have hcd : decide (cmpI dk dp < 0) = true := decide_eq_true (cmpI_neg.2 hd)
            have HD := Lib.hid hd
            obtain ⟨v, ev⟩ : ∃ v, cmpI dk dp = v := ⟨_, rfl⟩
            rw [ev] at C hcd
            clear ev hd
            go_wp2_with fail
            go_quiet ((go_at_call 90; exact quiet_drawn (C.out _)))
            have f1' : (wr.drewN nq).frozen? ⟨G, q + 1, none⟩ = false := f1
            have f0' : (wr.drewN nq).frozen? ⟨G, q, none⟩ = false := f0
            go_wp2_with fail
            go_region
            go_wp2_with fail
            have HP2 : (wr.drewN (nq + 1)).ownsRow G 3 1 (.slice (some ⟨G, 0, none⟩) n c) n ((datJ cs m n k (q + 1)).map (Value.int .i64)) := owns_upd HP.out (Drawn.upd (lo := 0) (hi := 0) ⟨_, rfl⟩) (by omega)
            have s1 := (HP2.stored (q + 1) (.int .i64 (p : Int))).1
            have s2 := (s1.stored q (.int .i64 (k : Int))).1
            have hsz : (((wr.drewN (nq + 1)).setCell ⟨G, q + 1, none⟩ (.int .i64 (p : Int))).setCell ⟨G, q, none⟩ (.int .i64 (k : Int))).heap.size = (wr.drewN (nq + 1)).heap.size := by simp [World.setCell]
            refine ⟨⟨q, by omega, rfl, ?_, ⟨?_, ?_⟩, fun z z1 z2 => ?_⟩, by simp [intOf]⟩
            · rw [← HSW.out, List.map_set, List.map_set]; exact s2
            · exact (HW.out.1.trans (Drawn.upd ⟨_, rfl⟩)).trans ((Upd.setCell _ ⟨G, q + 1, none⟩ _ (Nat.le_refl _) (Nat.lt_succ_self _)).trans (Upd.setCell _ ⟨G, q, none⟩ _ (Nat.le_refl _) (Nat.lt_succ_self _)))
            · rw [hsz]; exact HW.out.2
            · by_cases hzq : z = q
              · subst hzq
                rw [HP3.out, HEK.out]
                show dk < dst 3 (cs.getD p []) m 4
                rw [HEP.out]
                exact HD.out
              · exact HGG.out z (by omega) z2
          · have hcd : decide (cmpI dk dp < 0) = false := decide_eq_false (fun h => hd (cmpI_neg.1 h))
            have HST := Lib.hid (datJ_stop (n := n) hj HGG.out (.inr (by rw [Nat.add_sub_cancel, HP3.out, HEK.out]; show ¬ dk < dst 3 (cs.getD p []) m 4; rw [HEP.out]; exact hd)))
            obtain ⟨v, ev⟩ : ∃ v, cmpI dk dp = v := ⟨_, rfl⟩
            rw [ev] at C hcd
            clear ev hd
            go_wp2_with fail
            go_quiet ((go_at_call 90; exact quiet_drawn (C.out _)))
            go_wp2_with fail
            go_roundw
            case rel => exact ⟨k + 1, by omega, by omega, by go_num, owns_upd (by rw [← HST.out]; exact HP.out) (Drawn.upd (lo := 0) (hi := 0) ⟨_, rfl⟩) (by omega), HW.out.1.trans (Drawn.upd ⟨_, rfl⟩), HW.out.2⟩
            case measure => simp [intOf]; omega
    · have hke : k = n := by omega
      subst hke
      go_wp2_with fail
      (try simp only [Exit.inBlock, Exit.then])
      refine bodyPost_ret (v := .tuple #[]) (by simp [results, Try.results111, go_sem]) rfl ?_
      exact ⟨rfl, by rw [← datI_last]; exact HO.out, HU.out⟩
end Go.Proofs.Ytmpoljhdcgdnnaa

namespace Go.Proofs.Ytmpoljhdcgdnnaa
open Go.RowKit
set_option linter.unusedVariables false

set_option maxHeartbeats 1000000 in
theorem stableSort (w : World) (G P Q : Nat) (a b : Option Addr) (cap capm c n : Nat) (cs : List (List Int)) (m : List Int) (h : Caught w G P Q a b cap capm cs m) (hv : cenB cs 4 = true) (hm : vecB m 4 = true) (hn : cs.length = n)
    (ho : w.ownsRow G 3 1 (.slice (some ⟨G, 0, none⟩) n c) n ((datI cs m n 1).map (Value.int .i64))) :
    Calls Try.prog 105 #[.slice (some ⟨G, 0, none⟩) n c, .int .i64 (n : Int), .func (.func 90) #[] #[.pointer (some ⟨P, 0, none⟩), .pointer (some ⟨Q, 0, none⟩)]] w (SortedTo w G c n (keyT cs m n)) := by
  have IS := Lib.hid (insertSort w G P Q a b cap capm c n cs m h hv hm hn ho)
  have hn4 : n ≤ 4 := by have := (cenB_len hv).2; omega
  have d1 : decide ((20 : Int) ≤ (n : Int)) = false := decide_eq_false (by omega)
  have d2 : decide ((20 : Int) < (n : Int)) = false := decide_eq_false (by omega)
  clear h hv hm hn ho
  go_enter Try.func105, Try.ntmps105
  go_wp2_with fail
  go_loopw [7, 8] (fun x y wr => x = .int .i64 0 ∧ y = .int .i64 20 ∧ wr = w) (fun _ _ _ => 0)
  case atStart => exact ⟨rfl, rfl, rfl⟩
  case round =>
    obtain ⟨rfl, rfl, rfl⟩ := hrel
    go_wp2_with fail
    refine IS.out.mono ?_
    rintro e w2 ⟨rfl, hs⟩
    have HS := Lib.hid hs
    clear hs
    go_wp2_with fail
    go_loopw [6] (fun x wr => x = .int .i64 20 ∧ wr = w2) (fun _ _ => 0)
    case atStart => exact ⟨rfl, rfl⟩
    case round =>
      obtain ⟨rfl, rfl⟩ := hrel
      go_wp2_with fail
      (try simp only [Exit.inBlock, Exit.then])
      refine bodyPost_ret (v := .tuple #[]) (by simp [results, Try.results105, go_sem]) rfl ?_
      exact ⟨rfl, HS.out⟩
set_option maxHeartbeats 1000000 in
theorem sortStable (w : World) (G P Q : Nat) (a b : Option Addr) (cap capm c n : Nat) (cs : List (List Int)) (m : List Int) (h : Caught w G P Q a b cap capm cs m) (hv : cenB cs 4 = true) (hm : vecB m 4 = true) (hn : cs.length = n)
    (ho : w.ownsRow G 3 1 (.slice (some ⟨G, 0, none⟩) n c) n ((datI cs m n 1).map (Value.int .i64))) :
    Calls Try.prog 89 #[.slice (some ⟨G, 0, none⟩) n c, .func (.func 90) #[] #[.pointer (some ⟨P, 0, none⟩), .pointer (some ⟨Q, 0, none⟩)]] w (SortedTo w G c n (keyT cs m n)) := by
  have IS := Lib.hid (stableSort w G P Q a b cap capm c n cs m h hv hm hn ho)
  clear h hv hm hn ho
  go_enter Try.func89, Try.ntmps89
  go_wp2_with fail
  refine IS.out.mono ?_
  rintro e w2 ⟨rfl, hs⟩
  have HS := Lib.hid hs
  clear hs
  go_wp2_with fail
  (try simp only [Exit.inBlock, Exit.then])
  refine bodyPost_ret (v := .tuple #[]) (by simp [results, Try.results89, go_sem]) rfl ?_
  exact ⟨rfl, HS.out⟩
end Go.Proofs.Ytmpoljhdcgdnnaa
