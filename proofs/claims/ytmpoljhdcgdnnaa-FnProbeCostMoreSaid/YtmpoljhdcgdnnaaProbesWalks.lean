/-
  The walk of the reference's probes.
-/
import Derived.Test.YtmpoljhdcgdnnaaHitWalks
import Derived.Test.YtmpoljhdcgdnnaaClusWalks
namespace Go.Proofs.Ytmpoljhdcgdnnaa
open Go.RowKit
set_option linter.unusedVariables false

theorem getD_take {α : Type} {l : List α} {j k : Nat} (d : α) (h : j < k) : (l.take k).getD j d = l.getD j d := by
  rw [List.getD_eq_getElem?_getD, List.getD_eq_getElem?_getD, List.getElem?_take_of_lt h]
theorem map_take_succ {l : List Ht} {k : Nat} (h : k < l.length) : (l.take (k + 1)).map Ht.key = (l.take k).map Ht.key ++ [(l.getD k Ht.no).key] := by
  rw [List.take_succ_eq_append_getElem h, List.map_append, List.getD_eq_getElem?_getD, List.getElem?_eq_getElem h]
  rfl
theorem prbT_length (cs : List (List Int)) (m : List Int) (k c : Nat) : (prbT cs m k c).length = min k c := by unfold prbT; rw [List.length_take, srtT_length]
theorem prbT_zero (cs : List (List Int)) (m : List Int) (k : Nat) : prbT cs m k 0 = [] := by unfold prbT srtT; simp
theorem prbT_srt (cs : List (List Int)) (m : List Int) (k c : Nat) : SrtH (prbT cs m k c) := srtH_take (srtT_srt cs m c) k
theorem hits_empty (w : World) (lo : Nat) (hl : lo ≤ w.heap.size) : Hits (w.alloc (.cells #[] 32)) lo (w.heap.size + 1) (some ⟨w.heap.size, 0, none⟩) [] := Hits.nil _ _ _ _
theorem ReadInts.later {w w2 w' : World} {l : List Int} {e : Ending} (h : ReadInts w2 l e w') (hb : Below w.heap.size w w2) : ReadInts w l e w' := by
  obtain ⟨a, cap, he, h1, h2, h3⟩ := h
  exact ⟨a, cap, he, h1, h2, hb.trans (h3.mono hb.size)⟩
set_option maxHeartbeats 2000000 in
theorem probes_any (w : World) (lo hi lo' hi' : Nat) (a b : Option Addr) (cap capm k : Nat) (cs : List (List Int)) (m : List Int) (hA : Lists w lo hi a cs) (hB : Ints w lo' hi' b m) (hv : cenB cs 4 = true) (hm : vecB m 4 = true) (hk1 : 1 ≤ k) (hk4 : k ≤ 4) :
    Calls Try.prog 56 #[.slice a cs.length cap, .slice b m.length capm, .int .i64 (k : Int)] w (NewInts w (prbL cs m k)) := by
  have HV := Lib.hid (And.intro hv hm)
  have hl1 := (cenB_len hv).1
  have hl4 := (cenB_len hv).2
  have HAB := Lib.hid (And.intro hA hB)
  clear hv hm hA hB
  go_enter Try.func56, Try.ntmps56
  go_wp2_with fail
  go_loopw [7, 8] (fun v i wr => ∃ c p cp : Nat, c ≤ cs.length ∧ v = .slice (some ⟨p, 0, none⟩) (prbT cs m k c).length cp ∧ i = .int .i64 (c : Int) ∧ Hid (Hits wr 0 wr.heap.size (some ⟨p, 0, none⟩) (prbT cs m k c)) ∧ Hid (Below w.heap.size w wr)) (fun _ i _ => cs.length - (intOf i).toNat)
  case atStart => exact ⟨0, _, _, Nat.zero_le _, by rw [prbT_zero]; rfl, rfl, Lib.hid (by rw [prbT_zero]; exact Hits.nil _ _ _ _), Lib.hid (below_alloc _ _)⟩
  case round =>
    obtain ⟨c, p, cp, hc, rfl, rfl, HH, HX⟩ := hrel
    have hsx := HX.out.size
    by_cases hlt : c < cs.length
    · obtain ⟨q, off, ai, ci, rfl, _, _, hci, hxi⟩ := (HAB.out.1.below HX.out).at_ hlt
      have VI := Lib.hid (cenB_at HV.out.1 hlt)
      have HS := Lib.hid (prbT_succ cs m k c)
      have HSR := Lib.hid (prbT_srt cs m k c)
      have HLN := Lib.hid (prbT_length cs m k c)
      have hx4 : (cs.getD c []).length = 4 := by have := vecB_len VI.out; omega
      have hm4 : m.length = 4 := by have := vecB_len HV.out.2; omega
      have D := Lib.hid (specDist wr _ _ _ _ _ _ ci capm (cs.getD c []) m 3 hxi (HAB.out.2.below HX.out) (vecB_coords VI.out) (vecB_coords HV.out.2) (by omega) (by omega))
      rw [hx4] at hci D
      obtain ⟨d, ed⟩ : ∃ d, dst 3 (cs.getD c []) m 4 = d := ⟨_, rfl⟩
      rw [ed] at D HS
      have hci' : (c : Int) < cs.length := by omega
      have A1 := Lib.hid fun w' (hh : Hits w' 0 wr.heap.size (some ⟨p, 0, none⟩) (prbT cs m k c)) => addHit_any w' _ _ p 0 cp (prbT cs m k c) ⟨(c : Int), d⟩ k hh HSR.out (by rw [HLN.out]; omega) (by omega)
      rw [← HS.out] at A1
      obtain ⟨n, en⟩ : ∃ n, (prbT cs m k c).length = n := ⟨_, rfl⟩
      rw [en] at A1 ⊢
      clear hx4 hm4 ed hxi en
      go_wp2_with fail
      refine D.out.mono ?_
      rintro e w3 ⟨rfl, hd⟩
      have A2 := Lib.hid (A1.out w3 (HH.out.drawn hd))
      have HX3 : Hid (Below w.heap.size w w3) := Lib.hid (HX.out.trans hd.below)
      clear hd hci
      go_wp2_with fail
      refine A2.out.mono ?_
      rintro e w4 ⟨g, cg, rfl, hh, hcap, hb⟩
      have HH4 : Hid (Hits w4 0 w4.heap.size (some ⟨g, 0, none⟩) (prbT cs m k (c + 1))) := Lib.hid (hh.1.wide (Nat.zero_le _) (Nat.le_refl _))
      have HX4 : Hid (Below w.heap.size w w4) := Lib.hid (HX3.out.trans (hb.mono HX3.out.size))
      clear hh hcap hb
      go_wp2_with fail
      go_roundw
      case rel => exact ⟨c + 1, g, cg, by omega, rfl, by go_num, HH4, HX4⟩
      case measure => simp [intOf]; omega
    · have hce : c = cs.length := by omega
      subst hce
      rename World => wo
      have HLE : Hid ((prbT cs m k cs.length).length ≤ 4) := Lib.hid (by rw [prbT_length]; omega)
      have HPL : Hid (prbL cs m k = ((prbT cs m k cs.length).take (prbT cs m k cs.length).length).map Ht.key) := Lib.hid (by rw [List.take_length]; rfl)
      obtain ⟨L, eL⟩ : ∃ L, prbT cs m k cs.length = L := ⟨_, rfl⟩
      rw [eL] at HH HLE HPL ⊢
      have hL4 := HLE.out
      have HE := Lib.hid (owns_empty wo wo.heap.size 3 1 (Nat.le_refl _))
      clear eL
      go_wp2_with fail
      go_loopw [9, 10] (fun v i wr => ∃ j : Nat, j ≤ L.length ∧ i = .int .i64 (j : Int) ∧ Hid (wr.ownsRow wo.heap.size 3 1 v j (((L.take j).map Ht.key).map (Value.int .i64))) ∧ Hid (Below wo.heap.size wo wr)) (fun _ i _ => L.length - (intOf i).toNat)
      case atStart => exact ⟨0, Nat.zero_le _, rfl, HE, Lib.hid (below_alloc _ _)⟩
      case round =>
        obtain ⟨j, hj, rfl, HO, HY⟩ := hrel
        have hsy := HY.out.size
        by_cases hlt2 : j < L.length
        · obtain ⟨q, off, he, _, _, c0, c1⟩ := (HH.out.below HY.out).at_ hlt2
          simp only [Option.some.injEq, Addr.mk.injEq] at he
          obtain ⟨rfl, rfl, _⟩ := he
          have HS := Lib.hid (map_take_succ hlt2)
          obtain ⟨x, ex⟩ : ∃ x, L.getD j Ht.no = x := ⟨_, rfl⟩
          rw [ex] at c0 c1 HS
          have hji : (j : Int) < L.length := by omega
          clear ex
          rw [Nat.zero_add] at c0 c1
          go_wp2_with (at_builtin; refine append1 rfl _ _ 25 rfl wo.heap.size 3 Try.underlying25 infoInt rfl (by omega) (by omega) _ j (((L.take j).map Ht.key).map (Value.int .i64)) rfl HO.out [.int .i64 x.key] rfl rfl (ints_cells [x.key]) (by omega) (by omega) ?_; intro v' w6 hown6 hg6; have HO6 := Lib.hid hown6; have HG6 := Lib.hid hg6; clear hown6 hg6)
          go_roundw
          case rel => exact ⟨j + 1, by omega, by go_num, Lib.hid (by rw [HS.out, List.map_append]; exact HO6.out), Lib.hid (HY.out.grown HG6.out (by omega) (owns_block HO.out))⟩
          case measure => simp [intOf]; omega
        · have hje : j = L.length := by omega
          subst hje
          go_wp2_with fail
          go_ret
          rw [HPL.out]
          exact NewInts.mk (n := L.length) (by simp) (owns_low HO.out hsx) (HX.out.trans (HY.out.mono hsx))
end Go.Proofs.Ytmpoljhdcgdnnaa
