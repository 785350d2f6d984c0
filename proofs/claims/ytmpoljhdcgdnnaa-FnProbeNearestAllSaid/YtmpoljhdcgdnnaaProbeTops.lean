/-
  The walk of the program's probeOrder. The walk of the reference's probes. ProbeOrder, the program's and the reference's.
-/
import Derived.Test.YtmpoljhdcgdnnaaSortTops
import Derived.Test.YtmpoljhdcgdnnaaMarkSS
import Derived.Test.YtmpoljhdcgdnnaaItems
import Derived.Test.YtmpoljhdcgdnnaaClusWalks
import Derived.Test.YtmpoljhdcgdnnaaHitWalks
namespace Go.Proofs.Ytmpoljhdcgdnnaa
open Go.RowKit
set_option linter.unusedVariables false

theorem upI_snoc (i : Nat) : upI 0 (i + 1) = upI 0 i ++ [(i : Int)] := by
  unfold upI
  rw [Nat.sub_zero, Nat.sub_zero, List.range_succ, List.map_append]
  simp
theorem prbL_key (cs : List (List Int)) (m : List Int) (k : Nat) : prbL cs m k = (keyT cs m cs.length).take k := by unfold prbL keyT; rw [List.map_take]
theorem prbL_full {cs : List (List Int)} {m : List Int} {k : Nat} (h : cs.length ≤ k) : prbL cs m k = (keyT cs m cs.length).take cs.length := by
  rw [prbL_key, List.take_of_length_le (by rw [keyT_length]; exact h), List.take_of_length_le (by rw [keyT_length]; omega)]
/-- the first cells of a row of ints, behind a new block -/
theorem news_take {w : World} {g n c k : Nat} {l : List Int} {base : Nat} {o : Obj} (h : w.ownsRow base 3 1 (.slice (some ⟨g, 0, none⟩) n c) n (l.map (Value.int .i64))) (hk : k ≤ n) :
    ∀ j u, ((l.take k).map (Value.int .i64))[j]? = some u → (w.alloc o).cell? ((⟨g, 0, none⟩ : Addr).add j) = some u := by
  intro j u hj
  have hl := h.1
  rw [List.length_map] at hl
  have hjl : j < (l.take k).length := by
    have := (List.getElem?_eq_some_iff.1 hj).1
    simpa using this
  have hjk : j < k ∧ j < l.length := by rw [List.length_take] at hjl; omega
  rw [List.getElem?_map, List.getElem?_take_of_lt hjk.1, ← List.getElem?_map] at hj
  rw [add_none, Nat.zero_add]
  refine cell_later (below_alloc _ _) ?_
  rw [h.cellAt j (by omega), hj]
set_option maxHeartbeats 2000000 in
theorem implProbeIn (w : World) (lo hi lo' hi' : Nat) (a b : Option Addr) (cap capm k : Nat) (cs : List (List Int)) (m : List Int) (hA : Lists w lo hi a cs) (hB : Ints w lo' hi' b m) (hh : hi ≤ w.heap.size) (hh' : hi' ≤ w.heap.size) (hv : cenB cs 4 = true) (hm : vecB m 4 = true) (hk1 : 1 ≤ k) (hk4 : k ≤ 4) :
    Calls Try.prog 67 #[.slice a cs.length cap, .slice b m.length capm, .int .i64 (k : Int)] w (NewInts w (prbL cs m k)) := by
  have HV := Lib.hid (And.intro hv hm)
  have hl1 := (cenB_len hv).1
  have hl4 := (cenB_len hv).2
  obtain ⟨W, hW⟩ : ∃ W, (w.alloc (.cells #[.slice a cs.length cap] 23)).alloc (.cells #[.slice b m.length capm] 25) = W := ⟨_, rfl⟩
  have HB1 : Hid (Below w.heap.size w W) := Lib.hid (by rw [← hW]; exact ((Below.refl _ _).alloc (Nat.le_refl _) _).alloc (by simp) _)
  have hszW : W.heap.size = w.heap.size + 1 + 1 := by rw [← hW]; simp
  have kP : W.cell? ⟨w.heap.size, 0, none⟩ = some (.slice a cs.length cap) := by rw [← hW]; exact cell_later (below_alloc _ _) (cell_new w _ _ 0)
  have kQ : W.cell? ⟨w.heap.size + 1, 0, none⟩ = some (.slice b m.length capm) := by
    have := cell_new (w.alloc (.cells #[.slice a cs.length cap] 23)) #[.slice b m.length capm] 25 0
    rw [show (w.alloc (.cells #[.slice a cs.length cap] 23)).heap.size = w.heap.size + 1 by simp, hW] at this
    exact this
  have HC := Lib.hid (show ∀ w' G, W.heap.size ≤ G → Below W.heap.size W w' → Caught w' G w.heap.size (w.heap.size + 1) a b cap capm cs m from fun w' G hG hb => ⟨cell_later hb kP, cell_later hb kQ, by omega, by omega, (hA.below (HB1.out.trans (hb.mono (by omega)))).wide (Nat.zero_le _) (by omega), (hB.below (HB1.out.trans (hb.mono (by omega)))).wide (Nat.zero_le _) (by omega)⟩)
  have HE : Hid ((W.alloc (.cells #[] 3)).ownsRow W.heap.size 3 1 (.slice (some ⟨w.heap.size + 1 + 1, 0, none⟩) 0 0) 0 []) := Lib.hid (by
    have h := owns_empty W W.heap.size 3 1 (Nat.le_refl _)
    rw [hszW] at h ⊢
    exact h)
  clear hv hm hA hB
  go_enter Try.func67, Try.ntmps67
  go_wp2_with fail
  go_loopw [7, 12] (fun v i wr => ∃ j : Nat, j ≤ cs.length ∧ i = .int .i64 (j : Int) ∧ Hid (wr.ownsRow W.heap.size 3 1 v j ((upI 0 j).map (Value.int .i64))) ∧ Hid (Below W.heap.size W wr)) (fun _ i _ => cs.length - (intOf i).toNat)
  case atStart => exact ⟨0, Nat.zero_le _, rfl, HE.out, below_alloc _ _⟩
  case round =>
    obtain ⟨j, hj, rfl, HO, HX⟩ := hrel
    have hsx := HX.out.size
    by_cases hlt : j < cs.length
    · have HS := Lib.hid (upI_snoc j)
      go_wp2_with (at_builtin; refine append1 rfl _ _ 25 rfl W.heap.size 3 Try.underlying25 infoInt rfl (by omega) (by omega) _ j ((upI 0 j).map (Value.int .i64)) rfl HO.out [.int .i64 (j : Int)] rfl rfl (ints_cells [(j : Int)]) (by omega) (by omega) ?_; intro v' w6 hown6 hg6; have HO6 := Lib.hid hown6; have HG6 := Lib.hid hg6; clear hown6 hg6)
      go_roundw
      case rel => exact ⟨j + 1, by omega, by go_num, by rw [HS.out, List.map_append]; exact HO6.out, HX.out.grown HG6.out (by omega) (owns_block HO.out)⟩
      case measure => simp [intOf]; omega
    · have hje : j = cs.length := by omega
      subst hje
      obtain ⟨g, c, rfl, hg0, hgc, hgc2⟩ := owns_shape HO.out hl1
      have hown : wr.ownsRow g 3 1 (.slice (some ⟨g, 0, none⟩) cs.length c) cs.length ((datI cs m cs.length 1).map (Value.int .i64)) := by
        rw [datI_first cs m hl1]
        rcases HO.out.2 with ⟨he, _⟩ | ⟨g', c', cur, he, q1, q2⟩
        · simp at he
        · simp only [Value.slice.injEq, Option.some.injEq, Addr.mk.injEq] at he
          obtain ⟨⟨rfl, _⟩, _, rfl⟩ := he
          exact ⟨HO.out.1, .inr ⟨g, c, cur, rfl, Nat.le_refl _, q2⟩⟩
      have SS := Lib.hid (sortStable wr g w.heap.size (w.heap.size + 1) a b cap capm c cs.length cs m (HC.out wr g hg0 HX.out) HV.out.1 HV.out.2 rfl hown)
      clear hown
      by_cases hkl : k ≤ cs.length
      · go_wp2_with fail
        refine SS.out.mono ?_
        rintro e w3 ⟨rfl, hs1, hs2, hs3⟩
        have hb3 : Below w.heap.size w w3 := HB1.out.trans ((HX.out.trans (hs2.low hg0 HX.out.size)).mono HB1.out.size)
        have hs3' := hb3.size
        have HO3 := Lib.hid (owns_empty w3 w.heap.size 3 1 hs3')
        have HN3 := Lib.hid (news_take (o := .cells #[] 3) hs1 (show k ≤ cs.length by omega))
        have HB3 := Lib.hid hb3
        have hsa : w.heap.size ≤ (w3.alloc (.cells #[] 3)).heap.size := by simp; omega
        have HL := Lib.hid (show ((keyT cs m cs.length).take k).length = k by rw [List.length_take, keyT_length]; omega)
        clear hs1 hs2 hs3 hb3
        go_wp2_with (at_builtin; refine appendN rfl _ _ 25 rfl w.heap.size 3 Try.underlying25 infoInt rfl (by omega) (by omega) (.slice (some ⟨w3.heap.size, 0, none⟩) 0 0) 0 [] rfl HO3.out ⟨g, 0, none⟩ k c (((keyT cs m cs.length).take k).map (Value.int .i64)) rfl (by rw [List.length_map, HL.out]; omega) HN3.out (ints_cells _) (by omega) hsa ?_; intro v' w6 hown6 hg6; have HO6 := Lib.hid hown6; have HG6 := Lib.hid hg6; clear hown6 hg6)
        (try simp only [Exit.inBlock, Exit.then])
        go_ret
        refine NewInts.mk (n := 0 + k) ?_ (by rw [List.nil_append] at HO6; rw [prbL_key]; exact HO6.out) (((HB3.out.alloc HB3.out.size _)).grown HG6.out hsa (owns_block HO3.out))
        rw [prbL_length]; omega
      · go_wp2_with fail
        refine SS.out.mono ?_
        rintro e w3 ⟨rfl, hs1, hs2, hs3⟩
        have hb3 : Below w.heap.size w w3 := HB1.out.trans ((HX.out.trans (hs2.low hg0 HX.out.size)).mono HB1.out.size)
        have hs3' := hb3.size
        have HO3 := Lib.hid (owns_empty w3 w.heap.size 3 1 hs3')
        have HN3 := Lib.hid (news_take (o := .cells #[] 3) hs1 (show cs.length ≤ cs.length by omega))
        have HB3 := Lib.hid hb3
        have hsa : w.heap.size ≤ (w3.alloc (.cells #[] 3)).heap.size := by simp; omega
        have HL := Lib.hid (show ((keyT cs m cs.length).take cs.length).length = cs.length by rw [List.length_take, keyT_length]; omega)
        clear hs1 hs2 hs3 hb3
        go_wp2_with (at_builtin; refine appendN rfl _ _ 25 rfl w.heap.size 3 Try.underlying25 infoInt rfl (by omega) (by omega) (.slice (some ⟨w3.heap.size, 0, none⟩) 0 0) 0 [] rfl HO3.out ⟨g, 0, none⟩ cs.length c (((keyT cs m cs.length).take cs.length).map (Value.int .i64)) rfl (by rw [List.length_map, HL.out]; omega) HN3.out (ints_cells _) (by omega) hsa ?_; intro v' w6 hown6 hg6; have HO6 := Lib.hid hown6; have HG6 := Lib.hid hg6; clear hown6 hg6)
        (try simp only [Exit.inBlock, Exit.then])
        go_ret
        refine NewInts.mk (n := 0 + cs.length) ?_ (by rw [List.nil_append] at HO6; rw [prbL_full (show cs.length ≤ k by omega)]; exact HO6.out) (((HB3.out.alloc HB3.out.size _)).grown HG6.out hsa (owns_block HO3.out))
        rw [prbL_length]; omega
end Go.Proofs.Ytmpoljhdcgdnnaa

namespace Go.Proofs.Ytmpoljhdcgdnnaa
open Go.RowKit
set_option linter.unusedVariables false

theorem getD_take {α : Type} {l : List α} {j k : Nat} (d : α) (h : j < k) : (l.take k).getD j d = l.getD j d := by
  rw [List.getD_eq_getElem?_getD, List.getD_eq_getElem?_getD, List.getElem?_take_of_lt h]
theorem map_take_succ {l : List Ht} {k : Nat} (h : k < l.length) : (l.take (k + 1)).map Ht.key = (l.take k).map Ht.key ++ [(l.getD k Ht.no).key] := by
  rw [List.take_succ_eq_append_getElem h, List.map_append, List.getD_eq_getElem?_getD, List.getElem?_eq_getElem h]
  rfl
theorem prbT_length (cs : List (List Int)) (m : List Int) (k c : Nat) : (prbT cs m k c).length = min k c := by unfold prbT; rw [List.length_take, srtT_length]
theorem prbT_zero (cs : List (List Int)) (m : List Int) (k : Nat) : prbT cs m k 0 = [] := by unfold prbT srtT; simp
theorem prbT_srt (cs : List (List Int)) (m : List Int) (k c : Nat) : SrtH (prbT cs m k c) := srtH_take (srtT_srt cs m c) k
theorem hits_empty (w : World) (lo : Nat) (hl : lo ≤ w.heap.size) : Hits (w.alloc (.cells #[] 32)) lo (w.heap.size + 1) (some ⟨w.heap.size, 0, none⟩) [] := Hits.nil _ _ _ _
theorem ReadInts.later {w w2 w' : World} {l : List Int} {e : Ending} (h : ReadInts w2 l e w') (hb : Below w.heap.size w w2) : ReadInts w l e w' := by
  obtain ⟨a, cap, he, h1, h2, h3⟩ := h
  exact ⟨a, cap, he, h1, h2, hb.trans (h3.mono hb.size)⟩
set_option maxHeartbeats 2000000 in
theorem probes_any (w : World) (lo hi lo' hi' : Nat) (a b : Option Addr) (cap capm k : Nat) (cs : List (List Int)) (m : List Int) (hA : Lists w lo hi a cs) (hB : Ints w lo' hi' b m) (hv : cenB cs 4 = true) (hm : vecB m 4 = true) (hk1 : 1 ≤ k) (hk4 : k ≤ 4) :
    Calls Try.prog 56 #[.slice a cs.length cap, .slice b m.length capm, .int .i64 (k : Int)] w (NewInts w (prbL cs m k)) := by
  have HV := Lib.hid (And.intro hv hm)
  have hl1 := (cenB_len hv).1
  have hl4 := (cenB_len hv).2
  have HAB := Lib.hid (And.intro hA hB)
  clear hv hm hA hB
  go_enter Try.func56, Try.ntmps56
  go_wp2_with fail
  go_loopw [7, 8] (fun v i wr => ∃ c p cp : Nat, c ≤ cs.length ∧ v = .slice (some ⟨p, 0, none⟩) (prbT cs m k c).length cp ∧ i = .int .i64 (c : Int) ∧ Hid (Hits wr 0 wr.heap.size (some ⟨p, 0, none⟩) (prbT cs m k c)) ∧ Hid (Below w.heap.size w wr)) (fun _ i _ => cs.length - (intOf i).toNat)
  case atStart => exact ⟨0, _, _, Nat.zero_le _, by rw [prbT_zero]; rfl, rfl, Lib.hid (by rw [prbT_zero]; exact Hits.nil _ _ _ _), Lib.hid (below_alloc _ _)⟩
  case round =>
    obtain ⟨c, p, cp, hc, rfl, rfl, HH, HX⟩ := hrel
    have hsx := HX.out.size
    by_cases hlt : c < cs.length
    · obtain ⟨q, off, ai, ci, rfl, _, _, hci, hxi⟩ := (HAB.out.1.below HX.out).at_ hlt
      have VI := Lib.hid (cenB_at HV.out.1 hlt)
      have HS := Lib.hid (prbT_succ cs m k c)
      have HSR := Lib.hid (prbT_srt cs m k c)
      have HLN := Lib.hid (prbT_length cs m k c)
      have hx4 : (cs.getD c []).length = 4 := by have := vecB_len VI.out; omega
      have hm4 : m.length = 4 := by have := vecB_len HV.out.2; omega
      have D := Lib.hid (specDist wr _ _ _ _ _ _ ci capm (cs.getD c []) m 3 hxi (HAB.out.2.below HX.out) (vecB_coords VI.out) (vecB_coords HV.out.2) (by omega) (by omega))
      rw [hx4] at hci D
      obtain ⟨d, ed⟩ : ∃ d, dst 3 (cs.getD c []) m 4 = d := ⟨_, rfl⟩
      rw [ed] at D HS
      have hci' : (c : Int) < cs.length := by omega
      have A1 := Lib.hid fun w' (hh : Hits w' 0 wr.heap.size (some ⟨p, 0, none⟩) (prbT cs m k c)) => addHit_any w' _ _ p 0 cp (prbT cs m k c) ⟨(c : Int), d⟩ k hh HSR.out (by rw [HLN.out]; omega) (by omega)
      rw [← HS.out] at A1
      obtain ⟨n, en⟩ : ∃ n, (prbT cs m k c).length = n := ⟨_, rfl⟩
      rw [en] at A1 ⊢
      clear hx4 hm4 ed hxi en
      go_wp2_with fail
      refine D.out.mono ?_
      rintro e w3 ⟨rfl, hd⟩
      have A2 := Lib.hid (A1.out w3 (HH.out.drawn hd))
      have HX3 : Hid (Below w.heap.size w w3) := Lib.hid (HX.out.trans hd.below)
      clear hd hci
      go_wp2_with fail
      refine A2.out.mono ?_
      rintro e w4 ⟨g, cg, rfl, hh, hcap, hb⟩
      have HH4 : Hid (Hits w4 0 w4.heap.size (some ⟨g, 0, none⟩) (prbT cs m k (c + 1))) := Lib.hid (hh.1.wide (Nat.zero_le _) (Nat.le_refl _))
      have HX4 : Hid (Below w.heap.size w w4) := Lib.hid (HX3.out.trans (hb.mono HX3.out.size))
      clear hh hcap hb
      go_wp2_with fail
      go_roundw
      case rel => exact ⟨c + 1, g, cg, by omega, rfl, by go_num, HH4, HX4⟩
      case measure => simp [intOf]; omega
    · have hce : c = cs.length := by omega
      subst hce
      rename World => wo
      have HLE : Hid ((prbT cs m k cs.length).length ≤ 4) := Lib.hid (by rw [prbT_length]; omega)
      have HPL : Hid (prbL cs m k = ((prbT cs m k cs.length).take (prbT cs m k cs.length).length).map Ht.key) := Lib.hid (by rw [List.take_length]; rfl)
      obtain ⟨L, eL⟩ : ∃ L, prbT cs m k cs.length = L := ⟨_, rfl⟩
      rw [eL] at HH HLE HPL ⊢
      have hL4 := HLE.out
      have HE := Lib.hid (owns_empty wo wo.heap.size 3 1 (Nat.le_refl _))
      clear eL
      go_wp2_with fail
      go_loopw [9, 10] (fun v i wr => ∃ j : Nat, j ≤ L.length ∧ i = .int .i64 (j : Int) ∧ Hid (wr.ownsRow wo.heap.size 3 1 v j (((L.take j).map Ht.key).map (Value.int .i64))) ∧ Hid (Below wo.heap.size wo wr)) (fun _ i _ => L.length - (intOf i).toNat)
      case atStart => exact ⟨0, Nat.zero_le _, rfl, HE, Lib.hid (below_alloc _ _)⟩
      case round =>
        obtain ⟨j, hj, rfl, HO, HY⟩ := hrel
        have hsy := HY.out.size
        by_cases hlt2 : j < L.length
        · obtain ⟨q, off, he, _, _, c0, c1⟩ := (HH.out.below HY.out).at_ hlt2
          simp only [Option.some.injEq, Addr.mk.injEq] at he
          obtain ⟨rfl, rfl, _⟩ := he
          have HS := Lib.hid (map_take_succ hlt2)
          obtain ⟨x, ex⟩ : ∃ x, L.getD j Ht.no = x := ⟨_, rfl⟩
          rw [ex] at c0 c1 HS
          have hji : (j : Int) < L.length := by omega
          clear ex
          rw [Nat.zero_add] at c0 c1
          go_wp2_with (at_builtin; refine append1 rfl _ _ 25 rfl wo.heap.size 3 Try.underlying25 infoInt rfl (by omega) (by omega) _ j (((L.take j).map Ht.key).map (Value.int .i64)) rfl HO.out [.int .i64 x.key] rfl rfl (ints_cells [x.key]) (by omega) (by omega) ?_; intro v' w6 hown6 hg6; have HO6 := Lib.hid hown6; have HG6 := Lib.hid hg6; clear hown6 hg6)
          go_roundw
          case rel => exact ⟨j + 1, by omega, by go_num, Lib.hid (by rw [HS.out, List.map_append]; exact HO6.out), Lib.hid (HY.out.grown HG6.out (by omega) (owns_block HO.out))⟩
          case measure => simp [intOf]; omega
        · have hje : j = L.length := by omega
          subst hje
          go_wp2_with fail
          go_ret
          rw [HPL.out]
          exact NewInts.mk (n := L.length) (by simp) (owns_low HO.out hsx) (HX.out.trans (HY.out.mono hsx))
end Go.Proofs.Ytmpoljhdcgdnnaa

namespace Go.Proofs.Ytmpoljhdcgdnnaa
open Go.RowKit
set_option linter.unusedVariables false

/-- what ProbeOrder answers -/
def prbB (cs : List (List Int)) (m : List Int) (k : Int) : Bool := cenB cs 4 && (vecB m 4 && inR k 1 4)
def prbV (cs : List (List Int)) (m : List Int) (k : Int) : List Int := if prbB cs m k then prbL cs m k.toNat else []
theorem prbV_yes {cs : List (List Int)} {m : List Int} {k : Int} (h1 : cenB cs 4 = true) (h2 : vecB m 4 = true) (h3 : 1 ≤ k ∧ k ≤ 4) : prbV cs m k = prbL cs m k.toNat := by
  unfold prbV prbB; rw [h1, h2, inR_true h3]; rfl
theorem prbV_no1 {cs : List (List Int)} {m : List Int} {k : Int} (h1 : cenB cs 4 = false) : prbV cs m k = [] := by
  unfold prbV prbB; rw [h1]; rfl
theorem prbV_no2 {cs : List (List Int)} {m : List Int} {k : Int} (h2 : vecB m 4 = false) : prbV cs m k = [] := by
  unfold prbV prbB; rw [h2]; simp
theorem prbV_no3 {cs : List (List Int)} {m : List Int} {k : Int} (h3 : ¬ (1 ≤ k ∧ k ≤ 4)) : prbV cs m k = [] := by
  unfold prbV prbB; rw [inR_false h3]; simp
theorem prbL_bd (cs : List (List Int)) (m : List Int) (k : Nat) : ∀ x ∈ prbL cs m k, 0 ≤ x ∧ x < cs.length := fun x hx => by
  obtain ⟨i, hi, rfl⟩ := List.getElem_of_mem hx
  obtain ⟨j, h1, h2, _⟩ := prbL_get hi
  rw [List.getD_eq_getElem?_getD, List.getElem?_eq_getElem hi] at h2
  simp only [Option.getD_some] at h2
  omega
theorem prbV_ne {cs : List (List Int)} {m : List Int} {k : Int} (h : (prbV cs m k).length ≠ 0) : cenB cs 4 = true ∧ vecB m 4 = true ∧ (1 ≤ k ∧ k ≤ 4) := by
  refine ⟨?_, ?_, ?_⟩
  · cases h1 : cenB cs 4
    · rw [prbV_no1 h1] at h; exact absurd rfl h
    · rfl
  · cases h1 : vecB m 4
    · rw [prbV_no2 h1] at h; exact absurd rfl h
    · rfl
  · by_cases h1 : 1 ≤ k ∧ k ≤ 4
    · exact h1
    · rw [prbV_no3 h1] at h; exact absurd rfl h
/-- what the law asks of a ProbeOrder that is not empty -/
def PrbLaw (cs : List (List Int)) (m : List Int) (k : Int) (L : List Int) : Prop :=
  (∀ i, i < L.length → ∃ a : Nat, a < cs.length ∧ L.getD i 0 = (a : Int)) ∧
  (∀ i a b : Nat, i + 1 < L.length → L.getD i 0 = (a : Int) → L.getD (i + 1) 0 = (b : Int) → dst 3 (cs.getD a []) m 4 < dst 3 (cs.getD b []) m 4 ∨ (dst 3 (cs.getD a []) m 4 = dst 3 (cs.getD b []) m 4 ∧ a < b)) ∧
  L.getD 0 0 = centreV cs m ∧ 0 < L.length ∧ (L.length : Int) = min k (cs.length : Int)
theorem prbV_law {cs : List (List Int)} {m : List Int} {k : Int} (h : (prbV cs m k).length ≠ 0) : PrbLaw cs m k (prbV cs m k) := by
  obtain ⟨h1, h2, h3⟩ := prbV_ne h
  have e := prbV_yes h1 h2 h3
  rw [e] at h ⊢
  refine ⟨fun i hi => ?_, fun i a b hi ha hb => prbL_asc hi ha hb, ?_, by omega, ?_⟩
  · obtain ⟨j, q1, q2, _⟩ := prbL_get hi
    exact ⟨j, q1, q2⟩
  · rw [prbL_first h1 (by omega), centreV_yes h1 h2]
  · rw [prbL_length]; omega
theorem prbV_more {cs : List (List Int)} {m : List Int} {k : Int} (h : (prbV cs m k).length ≠ 0) (h4 : k ≠ 4) : (prbV cs m k).length ≤ (prbV cs m (k + 1)).length ∧ (prbV cs m (k + 1)).take (prbV cs m k).length = prbV cs m k := by
  obtain ⟨h1, h2, h3⟩ := prbV_ne h
  rw [prbV_yes h1 h2 h3, prbV_yes h1 h2 (by omega), show (k + 1).toNat = k.toNat + 1 by omega]
  exact ⟨by rw [prbL_length, prbL_length]; omega, prbL_more _ _ _⟩
theorem prbV_ok (cs : List (List Int)) (m : List Int) (k : Int) : (∀ x ∈ prbV cs m k, -9223372036854775808 ≤ x ∧ x ≤ 9223372036854775807) ∧ (prbV cs m k).length ≤ 9223372036854775807 ∧ (prbV cs m k).length ≤ 1048576 := by
  unfold prbV
  cases h : prbB cs m k
  · simp
  · unfold prbB at h
    simp only [Bool.and_eq_true] at h
    have h4 := (cenB_len h.1).2
    rw [if_pos rfl]
    refine ⟨fun x hx => ?_, ?_, ?_⟩
    · have := prbL_bd _ _ _ x hx; omega
    · rw [prbL_length]; omega
    · rw [prbL_length]; omega
theorem Ints.all {w : World} {lo hi : Nat} {a : Option Addr} {l : List Int} (h : Ints w lo hi a l) : Ints w 0 w.heap.size a l := by
  refine ⟨fun hne => ?_, h.len, h.ok⟩
  obtain ⟨b, off, ha, _, _, h3⟩ := h.cells hne
  exact ⟨b, off, ha, Nat.zero_le _, World.block_lt_of_cell? w _ (h3 0 (List.length_pos_iff.2 hne)), h3⟩
theorem Lists.all {w : World} {lo hi : Nat} {a : Option Addr} {ll : List (List Int)} (h : Lists w lo hi a ll) : Lists w 0 w.heap.size a ll := by
  refine ⟨fun hne => ?_, h.len⟩
  obtain ⟨b, off, ha, _, _, h3⟩ := h.cells hne
  obtain ⟨aj, cj, h4, _⟩ := h3 0 (List.length_pos_iff.2 hne)
  refine ⟨b, off, ha, Nat.zero_le _, World.block_lt_of_cell? w _ h4, fun j hj => ?_⟩
  obtain ⟨aj, cj, h4, h5⟩ := h3 j hj
  exact ⟨aj, cj, h4, h5.all⟩
set_option maxHeartbeats 1000000 in
theorem implProbe_new (w : World) (lo hi lo' hi' : Nat) (a b : Option Addr) (cap capm : Nat) (k : Int) (cs : List (List Int)) (m : List Int) (hA : Lists w lo hi a cs) (hB : Ints w lo' hi' b m) :
    Calls Try.prog 33 #[.slice a cs.length cap, .slice b m.length capm, .int .i64 k] w (NewInts w (prbV cs m k)) := by
  cases hv : cenB cs 4
  · rw [prbV_no1 hv]
    go_enter Try.func33, Try.ntmps33
    go_wp2_with fail
    refine (areVectors_any _ _ _ _ _ _ 4 hA).mono ?_
    rintro e w2 ⟨rfl, rfl⟩
    go_wp2_with fail
    go_ret
    exact NewInts.nil (Below.refl _ _)
  · cases hm : vecB m 4
    · rw [prbV_no2 hm]
      go_enter Try.func33, Try.ntmps33
      go_wp2_with fail
      refine (areVectors_any _ _ _ _ _ _ 4 hA).mono ?_
      rintro e w2 ⟨rfl, rfl⟩
      go_wp2_with fail
      refine (implIsVector _ _ _ _ _ _ 4 hB).mono ?_
      rintro e w2 ⟨rfl, rfl⟩
      go_wp2_with fail
      go_ret
      exact NewInts.nil (Below.refl _ _)
    · have HM := Lib.hid hm
      have HVV := Lib.hid hv
      by_cases h1 : k < 1
      · rw [prbV_no3 (by omega)]
        go_enter Try.func33, Try.ntmps33
        go_wp2_with fail
        refine (areVectors_any _ _ _ _ _ _ 4 hA).mono ?_
        rintro e w2 ⟨rfl, rfl⟩
        go_wp2_with fail
        refine (implIsVector _ _ _ _ _ _ 4 hB).mono ?_
        rintro e w2 ⟨rfl, rfl⟩
        go_wp2_with fail
        go_ret
        exact NewInts.nil (Below.refl _ _)
      · have d1 : decide (k < 1) = false := decide_eq_false h1
        by_cases h2 : 4 < k
        · rw [prbV_no3 (by omega)]
          go_enter Try.func33, Try.ntmps33
          go_wp2_with fail
          refine (areVectors_any _ _ _ _ _ _ 4 hA).mono ?_
          rintro e w2 ⟨rfl, rfl⟩
          go_wp2_with fail
          refine (implIsVector _ _ _ _ _ _ 4 hB).mono ?_
          rintro e w2 ⟨rfl, rfl⟩
          go_wp2_with fail
          go_ret
          exact NewInts.nil (Below.refl _ _)
        · have d2 : decide (4 < k) = false := decide_eq_false h2
          rw [prbV_yes hv hm (by omega)]
          obtain ⟨n, rfl⟩ : ∃ n : Nat, k = (n : Int) := ⟨k.toNat, by omega⟩
          rw [Int.toNat_natCast]
          have PI := Lib.hid (implProbeIn w _ _ _ _ a b cap capm n cs m hA.all hB.all (Nat.le_refl _) (Nat.le_refl _) hv hm (by omega) (by omega))
          go_enter Try.func33, Try.ntmps33
          go_wp2_with fail
          refine (areVectors_any _ _ _ _ _ _ 4 hA).mono ?_
          rintro e w2 ⟨rfl, rfl⟩
          go_wp2_with fail
          refine (implIsVector _ _ _ _ _ _ 4 hB).mono ?_
          rintro e w2 ⟨rfl, rfl⟩
          go_wp2_with fail
          refine PI.out.mono ?_
          rintro e w3 ⟨g, c, rfl, ho, hb⟩
          have HF := Lib.hid (And.intro ho hb)
          clear ho hb
          go_wp2_with fail
          go_ret
          exact ⟨g, c, rfl, HF.out⟩
set_option maxHeartbeats 1000000 in
theorem specProbe_new (w : World) (lo hi lo' hi' : Nat) (a b : Option Addr) (cap capm : Nat) (k : Int) (cs : List (List Int)) (m : List Int) (hA : Lists w lo hi a cs) (hB : Ints w lo' hi' b m) :
    Calls Try.prog 32 #[.slice a cs.length cap, .slice b m.length capm, .int .i64 k] w (NewInts w (prbV cs m k)) := by
  cases hv : cenB cs 4
  · rw [prbV_no1 hv]
    go_enter Try.func32, Try.ntmps32
    go_wp2_with fail
    refine (validCentres_any _ _ _ _ _ _ hA).mono ?_
    rintro e w2 ⟨rfl, rfl⟩
    go_wp2_with fail
    go_ret
    exact NewInts.nil (Below.refl _ _)
  · cases hm : vecB m 4
    · rw [prbV_no2 hm]
      go_enter Try.func32, Try.ntmps32
      go_wp2_with fail
      refine (validCentres_any _ _ _ _ _ _ hA).mono ?_
      rintro e w2 ⟨rfl, rfl⟩
      go_wp2_with fail
      refine (specIsVector _ _ _ _ _ _ hB).mono ?_
      rintro e w2 ⟨rfl, rfl⟩
      go_wp2_with fail
      go_ret
      exact NewInts.nil (Below.refl _ _)
    · by_cases h3 : 1 ≤ k ∧ k ≤ 4
      · rw [prbV_yes hv hm h3]
        have HR := inR_true h3
        obtain ⟨n, rfl⟩ : ∃ n : Nat, k = (n : Int) := ⟨k.toNat, by omega⟩
        rw [Int.toNat_natCast]
        have PI := Lib.hid (probes_any w _ _ _ _ a b cap capm n cs m hA hB hv hm (by omega) (by omega))
        clear h3
        go_enter Try.func32, Try.ntmps32
        go_wp2_with fail
        refine (validCentres_any _ _ _ _ _ _ hA).mono ?_
        rintro e w2 ⟨rfl, rfl⟩
        go_wp2_with fail
        refine (specIsVector _ _ _ _ _ _ hB).mono ?_
        rintro e w2 ⟨rfl, rfl⟩
        go_wp2_with fail
        refine (inRange_any _ _ _ _).mono ?_
        rintro e w2 ⟨rfl, rfl⟩
        go_wp2_with fail
        refine PI.out.mono ?_
        rintro e w3 ⟨g, c, rfl, ho, hb⟩
        have HF := Lib.hid (And.intro ho hb)
        clear ho hb
        go_wp2_with fail
        go_ret
        exact ⟨g, c, rfl, HF.out⟩
      · rw [prbV_no3 h3]
        have HR := inR_false h3
        clear h3
        go_enter Try.func32, Try.ntmps32
        go_wp2_with fail
        refine (validCentres_any _ _ _ _ _ _ hA).mono ?_
        rintro e w2 ⟨rfl, rfl⟩
        go_wp2_with fail
        refine (specIsVector _ _ _ _ _ _ hB).mono ?_
        rintro e w2 ⟨rfl, rfl⟩
        go_wp2_with fail
        refine (inRange_any _ _ _ _).mono ?_
        rintro e w2 ⟨rfl, rfl⟩
        go_wp2_with fail
        go_ret
        exact NewInts.nil (Below.refl _ _)
theorem implProbe_read (w : World) (lo hi lo' hi' : Nat) (a b : Option Addr) (cap capm : Nat) (k : Int) (cs : List (List Int)) (m : List Int) (hA : Lists w lo hi a cs) (hB : Ints w lo' hi' b m) :
    Calls Try.prog 33 #[.slice a cs.length cap, .slice b m.length capm, .int .i64 k] w (ReadInts w (prbV cs m k)) :=
  (implProbe_new w lo hi lo' hi' a b cap capm k cs m hA hB).mono fun e w' h => h.read (prbV_ok cs m k).1 (prbV_ok cs m k).2.1
theorem specProbe_read (w : World) (lo hi lo' hi' : Nat) (a b : Option Addr) (cap capm : Nat) (k : Int) (cs : List (List Int)) (m : List Int) (hA : Lists w lo hi a cs) (hB : Ints w lo' hi' b m) :
    Calls Try.prog 32 #[.slice a cs.length cap, .slice b m.length capm, .int .i64 k] w (ReadInts w (prbV cs m k)) :=
  (specProbe_new w lo hi lo' hi' a b cap capm k cs m hA hB).mono fun e w' h => h.read (prbV_ok cs m k).1 (prbV_ok cs m k).2.1
end Go.Proofs.Ytmpoljhdcgdnnaa
