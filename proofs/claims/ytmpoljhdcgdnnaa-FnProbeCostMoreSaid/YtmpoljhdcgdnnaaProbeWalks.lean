/-
  The walk of the program's probeOrder.
-/
import Derived.Test.YtmpoljhdcgdnnaaSortTops
import Derived.Test.YtmpoljhdcgdnnaaMarkSS
import Derived.Test.YtmpoljhdcgdnnaaItems
import Derived.Test.YtmpoljhdcgdnnaaClusWalks
namespace Go.Proofs.Ytmpoljhdcgdnnaa
open Go.RowKit
set_option linter.unusedVariables false

theorem upI_snoc (i : Nat) : upI 0 (i + 1) = upI 0 i ++ [(i : Int)] := by
  unfold upI
  rw [Nat.sub_zero, Nat.sub_zero, List.range_succ, List.map_append]
  simp
theorem prbL_key (cs : List (List Int)) (m : List Int) (k : Nat) : prbL cs m k = (keyT cs m cs.length).take k := by unfold prbL keyT; rw [List.map_take]
theorem prbL_full {cs : List (List Int)} {m : List Int} {k : Nat} (h : cs.length ≤ k) : prbL cs m k = (keyT cs m cs.length).take cs.length := by
  rw [prbL_key, List.take_of_length_le (by rw [keyT_length]; exact h), List.take_of_length_le (by rw [keyT_length]; omega)]
/-- the first cells of a row of ints, behind a new block -/
theorem news_take {w : World} {g n c k : Nat} {l : List Int} {base : Nat} {o : Obj} (h : w.ownsRow base 3 1 (.slice (some ⟨g, 0, none⟩) n c) n (l.map (Value.int .i64))) (hk : k ≤ n) :
    ∀ j u, ((l.take k).map (Value.int .i64))[j]? = some u → (w.alloc o).cell? ((⟨g, 0, none⟩ : Addr).add j) = some u := by
  intro j u hj
  have hl := h.1
  rw [List.length_map] at hl
  have hjl : j < (l.take k).length := by
    have := (List.getElem?_eq_some_iff.1 hj).1
    simpa using this
  have hjk : j < k ∧ j < l.length := by rw [List.length_take] at hjl; omega
  rw [List.getElem?_map, List.getElem?_take_of_lt hjk.1, ← List.getElem?_map] at hj
  rw [add_none, Nat.zero_add]
  refine cell_later (below_alloc _ _) ?_
  rw [h.cellAt j (by omega), hj]
set_option maxHeartbeats 2000000 in
theorem implProbeIn (w : World) (lo hi lo' hi' : Nat) (a b : Option Addr) (cap capm k : Nat) (cs : List (List Int)) (m : List Int) (hA : Lists w lo hi a cs) (hB : Ints w lo' hi' b m) (hh : hi ≤ w.heap.size) (hh' : hi' ≤ w.heap.size) (hv : cenB cs 4 = true) (hm : vecB m 4 = true) (hk1 : 1 ≤ k) (hk4 : k ≤ 4) :
    Calls Try.prog 67 #[.slice a cs.length cap, .slice b m.length capm, .int .i64 (k : Int)] w (NewInts w (prbL cs m k)) := by
  have HV := Lib.hid (And.intro hv hm)
  have hl1 := (cenB_len hv).1
  have hl4 := (cenB_len hv).2
  obtain ⟨W, hW⟩ : ∃ W, (w.alloc (.cells #[.slice a cs.length cap] 23)).alloc (.cells #[.slice b m.length capm] 25) = W := ⟨_, rfl⟩
  have HB1 : Hid (Below w.heap.size w W) := Lib.hid (by rw [← hW]; exact ((Below.refl _ _).alloc (Nat.le_refl _) _).alloc (by simp) _)
  have hszW : W.heap.size = w.heap.size + 1 + 1 := by rw [← hW]; simp
  have kP : W.cell? ⟨w.heap.size, 0, none⟩ = some (.slice a cs.length cap) := by rw [← hW]; exact cell_later (below_alloc _ _) (cell_new w _ _ 0)
  have kQ : W.cell? ⟨w.heap.size + 1, 0, none⟩ = some (.slice b m.length capm) := by
    have := cell_new (w.alloc (.cells #[.slice a cs.length cap] 23)) #[.slice b m.length capm] 25 0
    rw [show (w.alloc (.cells #[.slice a cs.length cap] 23)).heap.size = w.heap.size + 1 by simp, hW] at this
    exact this
  have HC := Lib.hid (show ∀ w' G, W.heap.size ≤ G → Below W.heap.size W w' → Caught w' G w.heap.size (w.heap.size + 1) a b cap capm cs m from fun w' G hG hb => ⟨cell_later hb kP, cell_later hb kQ, by omega, by omega, (hA.below (HB1.out.trans (hb.mono (by omega)))).wide (Nat.zero_le _) (by omega), (hB.below (HB1.out.trans (hb.mono (by omega)))).wide (Nat.zero_le _) (by omega)⟩)
  have HE : Hid ((W.alloc (.cells #[] 3)).ownsRow W.heap.size 3 1 (.slice (some ⟨w.heap.size + 1 + 1, 0, none⟩) 0 0) 0 []) := Lib.hid (by
    have h := owns_empty W W.heap.size 3 1 (Nat.le_refl _)
    rw [hszW] at h ⊢
    exact h)
  clear hv hm hA hB
  go_enter Try.func67, Try.ntmps67
  go_wp2_with fail
  go_loopw [7, 12] (fun v i wr => ∃ j : Nat, j ≤ cs.length ∧ i = .int .i64 (j : Int) ∧ Hid (wr.ownsRow W.heap.size 3 1 v j ((upI 0 j).map (Value.int .i64))) ∧ Hid (Below W.heap.size W wr)) (fun _ i _ => cs.length - (intOf i).toNat)
  case atStart => exact ⟨0, Nat.zero_le _, rfl, HE.out, below_alloc _ _⟩
  case round =>
    obtain ⟨j, hj, rfl, HO, HX⟩ := hrel
    have hsx := HX.out.size
    by_cases hlt : j < cs.length
    · have HS := Lib.hid (upI_snoc j)
      go_wp2_with (at_builtin; refine append1 rfl _ _ 25 rfl W.heap.size 3 Try.underlying25 infoInt rfl (by omega) (by omega) _ j ((upI 0 j).map (Value.int .i64)) rfl HO.out [.int .i64 (j : Int)] rfl rfl (ints_cells [(j : Int)]) (by omega) (by omega) ?_; intro v' w6 hown6 hg6; have HO6 := Lib.hid hown6; have HG6 := Lib.hid hg6; clear hown6 hg6)
      go_roundw
      case rel => exact ⟨j + 1, by omega, by go_num, by rw [HS.out, List.map_append]; exact HO6.out, HX.out.grown HG6.out (by omega) (owns_block HO.out)⟩
      case measure => simp [intOf]; omega
    · have hje : j = cs.length := by omega
      subst hje
      obtain ⟨g, c, rfl, hg0, hgc, hgc2⟩ := owns_shape HO.out hl1
      have hown : wr.ownsRow g 3 1 (.slice (some ⟨g, 0, none⟩) cs.length c) cs.length ((datI cs m cs.length 1).map (Value.int .i64)) := by
        rw [datI_first cs m hl1]
        rcases HO.out.2 with ⟨he, _⟩ | ⟨g', c', cur, he, q1, q2⟩
        · simp at he
        · simp only [Value.slice.injEq, Option.some.injEq, Addr.mk.injEq] at he
          obtain ⟨⟨rfl, _⟩, _, rfl⟩ := he
          exact ⟨HO.out.1, .inr ⟨g, c, cur, rfl, Nat.le_refl _, q2⟩⟩
      have SS := Lib.hid (sortStable wr g w.heap.size (w.heap.size + 1) a b cap capm c cs.length cs m (HC.out wr g hg0 HX.out) HV.out.1 HV.out.2 rfl hown)
      clear hown
      by_cases hkl : k ≤ cs.length
      · go_wp2_with fail
        refine SS.out.mono ?_
        rintro e w3 ⟨rfl, hs1, hs2, hs3⟩
        have hb3 : Below w.heap.size w w3 := HB1.out.trans ((HX.out.trans (hs2.low hg0 HX.out.size)).mono HB1.out.size)
        have hs3' := hb3.size
        have HO3 := Lib.hid (owns_empty w3 w.heap.size 3 1 hs3')
        have HN3 := Lib.hid (news_take (o := .cells #[] 3) hs1 (show k ≤ cs.length by omega))
        have HB3 := Lib.hid hb3
        have hsa : w.heap.size ≤ (w3.alloc (.cells #[] 3)).heap.size := by simp; omega
        have HL := Lib.hid (show ((keyT cs m cs.length).take k).length = k by rw [List.length_take, keyT_length]; omega)
        clear hs1 hs2 hs3 hb3
        go_wp2_with (at_builtin; refine appendN rfl _ _ 25 rfl w.heap.size 3 Try.underlying25 infoInt rfl (by omega) (by omega) (.slice (some ⟨w3.heap.size, 0, none⟩) 0 0) 0 [] rfl HO3.out ⟨g, 0, none⟩ k c (((keyT cs m cs.length).take k).map (Value.int .i64)) rfl (by rw [List.length_map, HL.out]; omega) HN3.out (ints_cells _) (by omega) hsa ?_; intro v' w6 hown6 hg6; have HO6 := Lib.hid hown6; have HG6 := Lib.hid hg6; clear hown6 hg6)
        (try simp only [Exit.inBlock, Exit.then])
        go_ret
        refine NewInts.mk (n := 0 + k) ?_ (by rw [List.nil_append] at HO6; rw [prbL_key]; exact HO6.out) (((HB3.out.alloc HB3.out.size _)).grown HG6.out hsa (owns_block HO3.out))
        rw [prbL_length]; omega
      · go_wp2_with fail
        refine SS.out.mono ?_
        rintro e w3 ⟨rfl, hs1, hs2, hs3⟩
        have hb3 : Below w.heap.size w w3 := HB1.out.trans ((HX.out.trans (hs2.low hg0 HX.out.size)).mono HB1.out.size)
        have hs3' := hb3.size
        have HO3 := Lib.hid (owns_empty w3 w.heap.size 3 1 hs3')
        have HN3 := Lib.hid (news_take (o := .cells #[] 3) hs1 (show cs.length ≤ cs.length by omega))
        have HB3 := Lib.hid hb3
        have hsa : w.heap.size ≤ (w3.alloc (.cells #[] 3)).heap.size := by simp; omega
        have HL := Lib.hid (show ((keyT cs m cs.length).take cs.length).length = cs.length by rw [List.length_take, keyT_length]; omega)
        clear hs1 hs2 hs3 hb3
        go_wp2_with (at_builtin; refine appendN rfl _ _ 25 rfl w.heap.size 3 Try.underlying25 infoInt rfl (by omega) (by omega) (.slice (some ⟨w3.heap.size, 0, none⟩) 0 0) 0 [] rfl HO3.out ⟨g, 0, none⟩ cs.length c (((keyT cs m cs.length).take cs.length).map (Value.int .i64)) rfl (by rw [List.length_map, HL.out]; omega) HN3.out (ints_cells _) (by omega) hsa ?_; intro v' w6 hown6 hg6; have HO6 := Lib.hid hown6; have HG6 := Lib.hid hg6; clear hown6 hg6)
        (try simp only [Exit.inBlock, Exit.then])
        go_ret
        refine NewInts.mk (n := 0 + cs.length) ?_ (by rw [List.nil_append] at HO6; rw [prbL_full (show cs.length ≤ k by omega)]; exact HO6.out) (((HB3.out.alloc HB3.out.size _)).grown HG6.out hsa (owns_block HO3.out))
        rw [prbL_length]; omega
end Go.Proofs.Ytmpoljhdcgdnnaa
