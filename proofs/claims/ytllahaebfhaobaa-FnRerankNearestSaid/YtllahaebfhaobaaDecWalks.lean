/-
  The walks of the vector of a code: the program's decodeVector, the reference's decode.
-/
import Derived.Test.YtllahaebfhaobaaBookWalks
import Derived.Test.YtllahaebfhaobaaDrawVec
import Derived.Test.YtllahaebfhaobaaDistWalks
import Derived.Deep.RegionHeld3
import Derived.Deep.AppendLies
namespace Go.Proofs.Ytllahaebfhaobaa
open Go.RowKit
set_option linter.unusedVariables false

theorem news_of_ints {w : World} {lo hi : Nat} {b off : Nat} {l : List Int} (h : ∀ j, j < l.length → w.cell? ⟨b, off + j, none⟩ = some (.int .i64 (l.getD j 0))) : ∀ j u, (l.map (Value.int .i64))[j]? = some u → w.cell? ((⟨b, off, none⟩ : Addr).add j) = some u := by
  intro j u hj
  have hjl : j < l.length := by
    have := (List.getElem?_eq_some_iff.1 hj).1
    simpa using this
  rw [add_none, h j hjl]
  rw [List.getElem?_map, List.getElem?_eq_getElem hjl] at hj
  rw [List.getD_eq_getElem?_getD, List.getElem?_eq_getElem hjl]
  exact hj

set_option maxRecDepth 100000 in
set_option maxHeartbeats 3200000 in
theorem implDecode (w : World) (lo hi : Nat) (a b : Option Addr) (cap cap' : Nat) (L R : List (List Int)) (c : Nat) (h : Sides w lo hi a b L R) (hv : bookB L R = true) (hc : c < 16) :
    Calls Try.prog 48 #[.agg #[.slice a L.length cap, .slice b R.length cap'], .int .i64 (c : Int)] w (OwnPost w (decL L R c)) := by
  obtain ⟨i0, hi0, hz0, hz1, hz2⟩ := info_parts infoInt
  obtain ⟨l1, l2⟩ := bookB_len hv
  obtain ⟨v1, v2⟩ := bookB_vecs hv
  have hkL : c / 4 < L.length := by omega
  have hkR : c % 4 < R.length := by omega
  obtain ⟨pa, oa, aj, cj, rfl, _, _, hca, hx⟩ := h.1.at_ hkL
  obtain ⟨pb, ob, aj', cj', rfl, _, _, hcb, hy⟩ := h.2.at_ hkR
  have x2 := vecB_len (vecsB_at v1 hkL)
  have y2 := vecB_len (vecsB_at v2 hkR)
  have HD : Hid (decL L R c = L.getD (c / 4) [] ++ R.getD (c % 4) []) := by show _ = _; rfl
  obtain ⟨x, ex⟩ : ∃ x, L.getD (c / 4) [] = x := ⟨_, rfl⟩
  obtain ⟨y, ey⟩ : ∃ y, R.getD (c % 4) [] = y := ⟨_, rfl⟩
  rw [ex] at hca hx x2 HD
  rw [ey] at hcb hy y2 HD
  clear ex ey v1 v2 hv
  have x2' : x.length = 2 := by omega
  have y2' : y.length = 2 := by omega
  rw [x2'] at hca
  rw [y2'] at hcb
  obtain ⟨qa, ua, rfl, _, _, hxc⟩ := hx.cells (by rintro rfl; simp at x2')
  obtain ⟨qb, ub, rfl, _, _, hyc⟩ := hy.cells (by rintro rfl; simp at y2')
  have NX := Lib.hid (news_of_ints (lo := 0) (hi := 0) hxc)
  have NY := Lib.hid (news_of_ints (lo := 0) (hi := 0) hyc)
  have lpa := World.block_lt_of_cell? w _ hca
  have lpb := World.block_lt_of_cell? w _ hcb
  have HX2 := Lib.hid x2'
  have HY2 := Lib.hid y2'
  have d0 : 0 ≤ ((c : Int) / 4) := by omega
  have d1 : (c : Int) / 4 < L.length := by omega
  have d2 : ((c : Int) / 4).toNat = c / 4 := by omega
  have dw : IntKind.i64.wrap ((c : Int) / 4) = (c : Int) / 4 := wrap_in (by omega)
  have mt : (c : Int).tmod 4 = (c : Int) % 4 := Int.tmod_eq_emod_of_nonneg (by omega)
  have m0 : 0 ≤ ((c : Int) % 4) := by omega
  have m1 : (c : Int) % 4 < R.length := by omega
  have m2 : ((c : Int) % 4).toNat = c % 4 := by omega
  clear l1 l2 x2 y2 x2' y2' hxc hyc
  obtain ⟨nL, eL⟩ : ∃ n, L.length = n := ⟨_, rfl⟩
  obtain ⟨nR, eR⟩ : ∃ n, R.length = n := ⟨_, rfl⟩
  rw [eL] at d1 hkL ⊢
  rw [eR] at m1 hkR ⊢
  clear eL eR
  have HE : Hid (World.ownsRow ((w.alloc (.cells #[.slice (some ⟨pa, oa, none⟩) nL cap, .slice (some ⟨pb, ob, none⟩) nR cap'] 25)).alloc (.cells #[] 3)).drew w.heap.size 3 1 (.slice (some ⟨w.heap.size + 1, 0, none⟩) 0 0) 0 []) := by
    have := owns_empty (w.alloc (.cells #[.slice (some ⟨pa, oa, none⟩) nL cap, .slice (some ⟨pb, ob, none⟩) nR cap'] 25)) w.heap.size 3 1 (by simp)
    rw [show (w.alloc (.cells #[.slice (some ⟨pa, oa, none⟩) nL cap, .slice (some ⟨pb, ob, none⟩) nR cap'] 25)).heap.size = w.heap.size + 1 by simp] at this
    exact Lib.hid this.drew
  have B2 : Hid (Below w.heap.size w ((w.alloc (.cells #[.slice (some ⟨pa, oa, none⟩) nL cap, .slice (some ⟨pb, ob, none⟩) nR cap'] 25)).alloc (.cells #[] 3)).drew) := Lib.hid (((Below.refl _ _).alloc (Nat.le_refl _) _).alloc (by simp) _).drew
  have K0 : Hid (((w.alloc (.cells #[.slice (some ⟨pa, oa, none⟩) nL cap, .slice (some ⟨pb, ob, none⟩) nR cap'] 25)).alloc (.cells #[] 3)).drew.cell? ⟨w.heap.size, 0, none⟩ = some (.slice (some ⟨pa, oa, none⟩) nL cap)) := Lib.hid (cell_later (((Below.refl _ _).alloc (Nat.le_refl _) _).drew) (cell_new w _ _ 0))
  have K1 : Hid (((w.alloc (.cells #[.slice (some ⟨pa, oa, none⟩) nL cap, .slice (some ⟨pb, ob, none⟩) nR cap'] 25)).alloc (.cells #[] 3)).drew.cell? ⟨w.heap.size, 1, none⟩ = some (.slice (some ⟨pb, ob, none⟩) nR cap')) := Lib.hid (cell_later (((Below.refl _ _).alloc (Nat.le_refl _) _).drew) (cell_new w _ _ 1))
  have K2 := Lib.hid (cell_later B2.out hca)
  have K3 := Lib.hid (cell_later B2.out hcb)
  go_enter Try.func48, Try.ntmps48
  go_wp2_with fail
  go_region_held3 (fun w' => w'.cell? ⟨w.heap.size, 0, none⟩ = some (.slice (some ⟨pa, oa, none⟩) nL cap) ∧ w'.cell? ⟨w.heap.size, 1, none⟩ = some (.slice (some ⟨pb, ob, none⟩) nR cap') ∧
      w'.cell? ⟨pa, oa + c / 4, none⟩ = some (.slice (some ⟨qa, ua, none⟩) 2 cj) ∧ w'.cell? ⟨pb, ob + c % 4, none⟩ = some (.slice (some ⟨qb, ub, none⟩) 2 cj'))
    (first | go_keep | exact ⟨hg1.cell K0.out (by simp [Value.ownBlock]), hg1.cell K1.out (by simp [Value.ownBlock]), hg1.cell K2.out (by simp [Value.ownBlock]; omega), hg1.cell K3.out (by simp [Value.ownBlock]; omega)⟩ | exact ⟨hg2.cell (hg1.cell K0.out (by simp [Value.ownBlock])) (by simp [Value.ownBlock]; omega), hg2.cell (hg1.cell K1.out (by simp [Value.ownBlock])) (by simp [Value.ownBlock]; omega), hg2.cell (hg1.cell K2.out (by simp [Value.ownBlock]; omega)) (by simp [Value.ownBlock]; omega), hg2.cell (hg1.cell K3.out (by simp [Value.ownBlock]; omega)) (by simp [Value.ownBlock]; omega)⟩)
    (first
      | (refine step_append_lies _ (by rfl) (.tmp 5) (.tmp 11) 27 (by rfl) w.heap.size 3 i0 (.int .i64 0) 1 8 Try.underlying27 hi0 hz0 hz1 hz2 rfl (by omega) (.slice (some ⟨w.heap.size + 1, 0, none⟩) 0 0) 0 [] (by rfl) HE.out ⟨qa, ua, none⟩ 2 cj (x.map (Value.int .i64)) (by rfl) (by rw [List.length_map, HX2.out]) (fun j u hj => cell_later B2.out (NX.out j u hj)) (ints_cells x) (by omega) (by unfold maxLen; omega) (by omega) (by simp; omega) (w.heap.size + 1 + 1) (by simp) ?_; intro g1 c1 w1 hown1 hg1 hat1 hlt1; have hq1 : w.heap.size + 1 ≤ g1 := (hat1.elim (fun h => by simp [Value.ownBlock] at h; omega) (fun h => by omega)))
      | (refine step_append_lies _ (by rfl) (.tmp 12) (.tmp 18) 27 (by rfl) w.heap.size 3 i0 (.int .i64 0) 1 8 Try.underlying27 hi0 hz0 hz1 hz2 rfl (by omega) (.slice (some ⟨g1, 0, none⟩) (0 + 2) c1) (0 + 2) ([] ++ x.map (Value.int .i64)) (by rfl) hown1 ⟨qb, ub, none⟩ 2 cj' (y.map (Value.int .i64)) (by rfl) (by rw [List.length_map, HY2.out]) (fun j u hj => cell_later (B2.out.grown hg1 (by have := B2.out.size; omega) (owns_block HE.out)) (NY.out j u hj)) (ints_cells y) (by omega) (by unfold maxLen; omega) (by omega) (by have := B2.out.size; have := hg1.size; omega) _ rfl ?_; intro g2 c2 w2 hown2 hg2 hat2 hlt2))
  clear hat1 hat2
  go_wp2
  go_ret
  have hlen : (decL L R c).length = 4 := by rw [HD.out, List.length_append, HX2.out, HY2.out]
  have hown' : w2.ownsRow w.heap.size 3 1 (.slice (some ⟨g2, 0, none⟩) (decL L R c).length c2) (decL L R c).length ((decL L R c).map (Value.int .i64)) := by
    rw [hlen, HD.out, List.map_append]
    simpa using hown2
  have hcap := owns_cap hown'
  have B3 := B2.out.grown hg1 (by have := B2.out.size; omega) (owns_block HE.out)
  exact ⟨g2, c2, ret_slice (by omega), hcap.1, hcap.2, hown', B3.grown hg2 B3.size (owns_block hown1)⟩
set_option maxRecDepth 100000 in
set_option maxHeartbeats 3200000 in
theorem specDecode (w : World) (lo hi : Nat) (a b : Option Addr) (cap cap' : Nat) (L R : List (List Int)) (c : Nat) (h : Sides w lo hi a b L R) (hv : bookB L R = true) (hc : c < 16) :
    Calls Try.prog 46 #[.agg #[.slice a L.length cap, .slice b R.length cap'], .int .i64 (c : Int)] w (OwnPost w (decL L R c)) := by
  obtain ⟨i0, hi0, hz0, hz1, hz2⟩ := info_parts infoInt
  obtain ⟨l1, l2⟩ := bookB_len hv
  obtain ⟨v1, v2⟩ := bookB_vecs hv
  have hkL : c / 4 < L.length := by omega
  have hkR : c % 4 < R.length := by omega
  obtain ⟨pa, oa, aj, cj, rfl, _, _, hca, hx⟩ := h.1.at_ hkL
  obtain ⟨pb, ob, aj', cj', rfl, _, _, hcb, hy⟩ := h.2.at_ hkR
  have x2 := vecB_len (vecsB_at v1 hkL)
  have y2 := vecB_len (vecsB_at v2 hkR)
  have HD : Hid (decL L R c = L.getD (c / 4) [] ++ R.getD (c % 4) []) := by show _ = _; rfl
  obtain ⟨x, ex⟩ : ∃ x, L.getD (c / 4) [] = x := ⟨_, rfl⟩
  obtain ⟨y, ey⟩ : ∃ y, R.getD (c % 4) [] = y := ⟨_, rfl⟩
  rw [ex] at hca hx x2 HD
  rw [ey] at hcb hy y2 HD
  clear ex ey v1 v2 hv
  have x2' : x.length = 2 := by omega
  have y2' : y.length = 2 := by omega
  rw [x2'] at hca
  rw [y2'] at hcb
  obtain ⟨qa, ua, rfl, _, _, hxc⟩ := hx.cells (by rintro rfl; simp at x2')
  obtain ⟨qb, ub, rfl, _, _, hyc⟩ := hy.cells (by rintro rfl; simp at y2')
  have NX := Lib.hid (news_of_ints (lo := 0) (hi := 0) hxc)
  have NY := Lib.hid (news_of_ints (lo := 0) (hi := 0) hyc)
  have lpa := World.block_lt_of_cell? w _ hca
  have lpb := World.block_lt_of_cell? w _ hcb
  have HX2 := Lib.hid x2'
  have HY2 := Lib.hid y2'
  have d0 : 0 ≤ ((c : Int) / 4) := by omega
  have d1 : (c : Int) / 4 < L.length := by omega
  have d2 : ((c : Int) / 4).toNat = c / 4 := by omega
  have dw : IntKind.i64.wrap ((c : Int) / 4) = (c : Int) / 4 := wrap_in (by omega)
  have mt : (c : Int).tmod 4 = (c : Int) % 4 := Int.tmod_eq_emod_of_nonneg (by omega)
  have m0 : 0 ≤ ((c : Int) % 4) := by omega
  have m1 : (c : Int) % 4 < R.length := by omega
  have m2 : ((c : Int) % 4).toNat = c % 4 := by omega
  clear l1 l2 x2 y2 x2' y2' hxc hyc
  obtain ⟨nL, eL⟩ : ∃ n, L.length = n := ⟨_, rfl⟩
  obtain ⟨nR, eR⟩ : ∃ n, R.length = n := ⟨_, rfl⟩
  rw [eL] at d1 hkL ⊢
  rw [eR] at m1 hkR ⊢
  clear eL eR
  have HE : Hid (World.ownsRow ((w.alloc (.cells #[.slice (some ⟨pa, oa, none⟩) nL cap, .slice (some ⟨pb, ob, none⟩) nR cap'] 25)).alloc (.cells #[] 3)).drew w.heap.size 3 1 (.slice (some ⟨w.heap.size + 1, 0, none⟩) 0 0) 0 []) := by
    have := owns_empty (w.alloc (.cells #[.slice (some ⟨pa, oa, none⟩) nL cap, .slice (some ⟨pb, ob, none⟩) nR cap'] 25)) w.heap.size 3 1 (by simp)
    rw [show (w.alloc (.cells #[.slice (some ⟨pa, oa, none⟩) nL cap, .slice (some ⟨pb, ob, none⟩) nR cap'] 25)).heap.size = w.heap.size + 1 by simp] at this
    exact Lib.hid this.drew
  have B2 : Hid (Below w.heap.size w ((w.alloc (.cells #[.slice (some ⟨pa, oa, none⟩) nL cap, .slice (some ⟨pb, ob, none⟩) nR cap'] 25)).alloc (.cells #[] 3)).drew) := Lib.hid (((Below.refl _ _).alloc (Nat.le_refl _) _).alloc (by simp) _).drew
  have K0 : Hid (((w.alloc (.cells #[.slice (some ⟨pa, oa, none⟩) nL cap, .slice (some ⟨pb, ob, none⟩) nR cap'] 25)).alloc (.cells #[] 3)).drew.cell? ⟨w.heap.size, 0, none⟩ = some (.slice (some ⟨pa, oa, none⟩) nL cap)) := Lib.hid (cell_later (((Below.refl _ _).alloc (Nat.le_refl _) _).drew) (cell_new w _ _ 0))
  have K1 : Hid (((w.alloc (.cells #[.slice (some ⟨pa, oa, none⟩) nL cap, .slice (some ⟨pb, ob, none⟩) nR cap'] 25)).alloc (.cells #[] 3)).drew.cell? ⟨w.heap.size, 1, none⟩ = some (.slice (some ⟨pb, ob, none⟩) nR cap')) := Lib.hid (cell_later (((Below.refl _ _).alloc (Nat.le_refl _) _).drew) (cell_new w _ _ 1))
  have K2 := Lib.hid (cell_later B2.out hca)
  have K3 := Lib.hid (cell_later B2.out hcb)
  go_enter Try.func46, Try.ntmps46
  go_wp2_with fail
  go_region_held3 (fun w' => w'.cell? ⟨w.heap.size, 0, none⟩ = some (.slice (some ⟨pa, oa, none⟩) nL cap) ∧ w'.cell? ⟨w.heap.size, 1, none⟩ = some (.slice (some ⟨pb, ob, none⟩) nR cap') ∧
      w'.cell? ⟨pa, oa + c / 4, none⟩ = some (.slice (some ⟨qa, ua, none⟩) 2 cj) ∧ w'.cell? ⟨pb, ob + c % 4, none⟩ = some (.slice (some ⟨qb, ub, none⟩) 2 cj'))
    (first | go_keep | exact ⟨hg1.cell K0.out (by simp [Value.ownBlock]), hg1.cell K1.out (by simp [Value.ownBlock]), hg1.cell K2.out (by simp [Value.ownBlock]; omega), hg1.cell K3.out (by simp [Value.ownBlock]; omega)⟩ | exact ⟨hg2.cell (hg1.cell K0.out (by simp [Value.ownBlock])) (by simp [Value.ownBlock]; omega), hg2.cell (hg1.cell K1.out (by simp [Value.ownBlock])) (by simp [Value.ownBlock]; omega), hg2.cell (hg1.cell K2.out (by simp [Value.ownBlock]; omega)) (by simp [Value.ownBlock]; omega), hg2.cell (hg1.cell K3.out (by simp [Value.ownBlock]; omega)) (by simp [Value.ownBlock]; omega)⟩)
    (first
      | (refine step_append_lies _ (by rfl) (.tmp 5) (.tmp 11) 27 (by rfl) w.heap.size 3 i0 (.int .i64 0) 1 8 Try.underlying27 hi0 hz0 hz1 hz2 rfl (by omega) (.slice (some ⟨w.heap.size + 1, 0, none⟩) 0 0) 0 [] (by rfl) HE.out ⟨qa, ua, none⟩ 2 cj (x.map (Value.int .i64)) (by rfl) (by rw [List.length_map, HX2.out]) (fun j u hj => cell_later B2.out (NX.out j u hj)) (ints_cells x) (by omega) (by unfold maxLen; omega) (by omega) (by simp; omega) (w.heap.size + 1 + 1) (by simp) ?_; intro g1 c1 w1 hown1 hg1 hat1 hlt1; have hq1 : w.heap.size + 1 ≤ g1 := (hat1.elim (fun h => by simp [Value.ownBlock] at h; omega) (fun h => by omega)))
      | (refine step_append_lies _ (by rfl) (.tmp 12) (.tmp 18) 27 (by rfl) w.heap.size 3 i0 (.int .i64 0) 1 8 Try.underlying27 hi0 hz0 hz1 hz2 rfl (by omega) (.slice (some ⟨g1, 0, none⟩) (0 + 2) c1) (0 + 2) ([] ++ x.map (Value.int .i64)) (by rfl) hown1 ⟨qb, ub, none⟩ 2 cj' (y.map (Value.int .i64)) (by rfl) (by rw [List.length_map, HY2.out]) (fun j u hj => cell_later (B2.out.grown hg1 (by have := B2.out.size; omega) (owns_block HE.out)) (NY.out j u hj)) (ints_cells y) (by omega) (by unfold maxLen; omega) (by omega) (by have := B2.out.size; have := hg1.size; omega) _ rfl ?_; intro g2 c2 w2 hown2 hg2 hat2 hlt2))
  clear hat1 hat2
  go_wp2
  go_ret
  have hlen : (decL L R c).length = 4 := by rw [HD.out, List.length_append, HX2.out, HY2.out]
  have hown' : w2.ownsRow w.heap.size 3 1 (.slice (some ⟨g2, 0, none⟩) (decL L R c).length c2) (decL L R c).length ((decL L R c).map (Value.int .i64)) := by
    rw [hlen, HD.out, List.map_append]
    simpa using hown2
  have hcap := owns_cap hown'
  have B3 := B2.out.grown hg1 (by have := B2.out.size; omega) (owns_block HE.out)
  exact ⟨g2, c2, ret_slice (by omega), hcap.1, hcap.2, hown', B3.grown hg2 B3.size (owns_block hown1)⟩
end Go.Proofs.Ytllahaebfhaobaa
