/-
  The walks of the reference's hit and byDist.
-/
import Derived.Test.YtlammenejgagdaaTreeKit
import Derived.Test.YtlammenejgagdaaNearWalks
import Derived.Deep.RegionLaw
import Derived.BigQuiet
namespace Go.Proofs.Ytlammenejgagdaa
open Go.RowKit
set_option linter.unusedVariables false

theorem store2h {w : World} {B : Nat} {x0 y0 : Value} {t : TypeId} (h : w.heap[B]? = some (.cells #[x0, y0] t (0, 0))) (x y : Value) :
    (w.setCell ⟨B, 0, none⟩ x).cell? ⟨B, 0, none⟩ = some x ∧ ((w.setCell ⟨B, 0, none⟩ x).setCell ⟨B, 1, none⟩ y).cell? ⟨B, 1, none⟩ = some y ∧ ((w.setCell ⟨B, 0, none⟩ x).setCell ⟨B, 1, none⟩ y).cell? ⟨B, 0, none⟩ = some x := by
  have h1 : (w.setCell ⟨B, 0, none⟩ x).heap[B]? = some (.cells #[x, y0] t (0, 0)) := by simp [World.setCell, Array.getElem?_modify, h]
  have h2 : ((w.setCell ⟨B, 0, none⟩ x).setCell ⟨B, 1, none⟩ y).heap[B]? = some (.cells #[x, y] t (0, 0)) := by
    generalize w.setCell ⟨B, 0, none⟩ x = w' at h1 ⊢
    simp [World.setCell, Array.getElem?_modify, h1]
  exact ⟨cells2_0 h1, cells2_1 h2, cells2_0 h2⟩
set_option maxHeartbeats 1000000 in
theorem hit_any (w : World) (lo hi lo' hi' : Nat) (a b : Option Addr) (c capm : Nat) (kind : Int) (x : It) (m : List Int) (hx : Ints w lo hi a x.pos) (hm : Ints w lo' hi' b m) (vx : vecB x.pos 4 = true) (vm : vecB m 4 = true) :
    Calls Try.prog 75 #[.agg #[.int .i64 x.key, .slice a 4 c, .int .i64 x.tags], .int .i64 kind, .slice b m.length capm] w fun e w' => e = .returned (htV (htIt kind m x)) ∧ Below w.heap.size w w' := by
  have hx4 : x.pos.length = 4 := by have := vecB_len vx; omega
  have hm4 : m.length = 4 := by have := vecB_len vm; omega
  obtain ⟨k0, k1, k2⟩ := cells3_new w (.int .i64 x.key) (.slice a 4 c) (.int .i64 x.tags) 39
  have hb1 := below_alloc w (.cells #[.int .i64 x.key, .slice a 4 c, .int .i64 x.tags] 39)
  obtain ⟨V, hV⟩ : ∃ V, w.alloc (.cells #[.int .i64 x.key, .slice a 4 c, .int .i64 x.tags] 39) = V := ⟨_, rfl⟩
  have hszV : V.heap.size = w.heap.size + 1 := by rw [← hV]; simp
  rw [hV] at k0 k1 k2 hb1
  have hb2 := below_alloc V (.cells #[.int .i64 0, .int .i64 0] 52)
  have hz : (V.alloc (.cells #[.int .i64 0, .int .i64 0] 52)).heap[V.heap.size]? = some (.cells #[.int .i64 0, .int .i64 0] 52 (0, 0)) := heap_alloc_new V _
  replace k0 := cell_later hb2 k0
  replace k1 := cell_later hb2 k1
  obtain ⟨W, hW⟩ : ∃ W, V.alloc (.cells #[.int .i64 0, .int .i64 0] 52) = W := ⟨_, rfl⟩
  have hszW : W.heap.size = w.heap.size + 1 + 1 := by rw [← hW]; simp [hszV]
  rw [hW] at k0 k1 hb2 hz
  have HB : Hid (Below w.heap.size w W) := Lib.hid (hb1.trans (hb2.mono hb1.size))
  have D := Lib.hid (specDist W.drew _ _ _ _ _ _ c capm x.pos m kind (((hx.below hb1).below hb2).drawn (drawn_drew W)) (((hm.below hb1).below hb2).drawn (drawn_drew W)) (vecB_coords vx) (vecB_coords vm) (by omega) (by omega))
  rw [hx4] at D
  have HZ := Lib.hid hz
  have HK := Lib.hid (And.intro k0 k1)
  have HF : Hid (htV (htIt kind m x) = .agg #[.int .i64 x.key, .int .i64 (dst kind x.pos m 4)]) := Lib.hid rfl
  rw [HF.out]
  obtain ⟨d, ed⟩ : ∃ d, dst kind x.pos m 4 = d := ⟨_, rfl⟩
  rw [ed] at D ⊢
  have HSZ := Lib.hid (And.intro hszV hszW)
  clear hx hm vx vm hx4 hm4 k2 hb1 hb2 hz ed hszV hszW HF
  go_enter Try.func75, Try.ntmps75
  go_wp2_with fail
  clear hV hW
  go_region_law (go_simp; go_at_call 57; refine D.out.mono ?_; rintro e w3 ⟨rfl, hd3⟩; have e0 := hd3.cell HK.out.1; have e1 := hd3.cell HK.out.2; have hz3 : w3.heap[V.heap.size]? = some (.cells #[.int .i64 0, .int .i64 0] 52 (0, 0)) := (congrArg (fun h : Array Obj => h[V.heap.size]?) hd3.heap).trans HZ.out; have z0 := cells2_0 hz3; have z1 := cells2_1 hz3; have zf := cells2_f hz3; have HZ3 := Lib.hid hz3; have HD3 := Lib.hid hd3; clear hd3 hz3)
  all_goals (
    obtain ⟨c0, c1, c2⟩ := store2h HZ3.out (.int .i64 x.key) (.int .i64 d)
    have hb3 : Below w.heap.size w w3 := HB.out.trans ((Drawn.below ((drawn_drew W).trans HD3.out)).mono HB.out.size)
    have hs3 := hb3.size
    have hv := HSZ.out.1
    clear e0 e1 z0 z1 zf
    go_wp2_with fail
    (try simp only [Exit.inBlock, Exit.then])
    refine bodyPost_ret (v := .agg #[.int .i64 x.key, .int .i64 d]) (by simp [results, Try.results75, go_sem, c0, c1, c2]) rfl ?_
    exact ⟨rfl, hb3.trans (((upd_set w3 V.heap.size 0 (.int .i64 x.key)).trans (upd_set _ V.heap.size 1 (.int .i64 d))).low (by omega) hs3)⟩)
theorem insAt_getI {α : Type} (l : List α) (x d : α) {i : Nat} (hi : i ≤ l.length) : (insAt l x i).getD i d = x := insAt_get l x d hi
/-- items of the call's own, in order -/
def NewByD (w : World) (base : Nat) (R : List It) (e : Ending) (w' : World) : Prop :=
  ∃ g cap L, e = .returned (.slice (some ⟨g, 0, none⟩) R.length cap) ∧ w'.ownsRow w.heap.size 39 3 (.slice (some ⟨g, 0, none⟩) R.length cap) R.length (flatI L) ∧ L.map Itv.it = R ∧ ItvOk w' 0 base L ∧ Cap R.length cap ∧ Below w.heap.size w w'
theorem upd_set6 (w : World) (B o1 o2 o3 o4 o5 o6 : Nat) (u1 u2 u3 u4 u5 u6 : Value) : Upd B (B + 1) w ((((((w.setCell ⟨B, o1, none⟩ u1).setCell ⟨B, o2, none⟩ u2).setCell ⟨B, o3, none⟩ u3).setCell ⟨B, o4, none⟩ u4).setCell ⟨B, o5, none⟩ u5).setCell ⟨B, o6, none⟩ u6) :=
  (upd_set w B o1 u1).trans ((upd_set _ B o2 u2).trans ((upd_set _ B o3 u3).trans ((upd_set _ B o4 u4).trans ((upd_set _ B o5 u5).trans (upd_set _ B o6 u6)))))
theorem byD_end {w wr : World} {base g c : Nat} {kind : Int} {m : List Int} {ll : List It} {L : List Itv} (ho : wr.ownsRow w.heap.size 39 3 (.slice (some ⟨g, 0, none⟩) ll.length c) ll.length (flatI L)) (h1 : L.map Itv.it = srtI kind m ll ll.length) (h2 : ItvOk w 0 base L) (hb : Below w.heap.size w wr) :
    NewByD w base (byD kind m ll) (.returned (.slice (some ⟨g, 0, none⟩) ll.length c)) wr := by
  have hl := byD_length kind m ll
  unfold NewByD
  rw [hl]
  exact ⟨g, c, L, rfl, ho, h1, h2.below hb, owns_cap ho, hb⟩
set_option maxRecDepth 4000 in
set_option maxHeartbeats 4000000 in
theorem byDist_any (w : World) (base lo hi : Nat) (a b : Option Addr) (cap capm : Nat) (kind : Int) (ll : List It) (m : List Int) (hI : ItemsB w base a ll) (hm : Ints w lo hi b m) (hb : base ≤ w.heap.size) (hv : ∀ j, j < ll.length → vecB (ll.getD j It.no).pos 4 = true) (vm : vecB m 4 = true) (hn : ll.length ≤ 1000) :
    Calls Try.prog 56 #[.slice a ll.length cap, .int .i64 kind, .slice b m.length capm] w (NewByD w base (byD kind m ll)) := by
  have HI := Lib.hid hI
  have HM := Lib.hid hm
  have HV := Lib.hid (And.intro hv vm)
  have HL := Lib.hid (byD_length kind m ll)
  have HW := Lib.hid fun j => srtI_wi kind m ll j
  have HE := Lib.hid (owns_empty w w.heap.size 39 3 (Nat.le_refl _))
  clear hI hm hv vm
  go_enter Try.func56, Try.ntmps56
  go_wp2_with fail
  go_loopw [7, 8] (fun v i wr => ∃ (j g c : Nat) (L : List Itv), j ≤ ll.length ∧ v = .slice (some ⟨g, 0, none⟩) j c ∧ i = .int .i64 (j : Int) ∧ Hid (Below w.heap.size w wr ∧ wr.ownsRow w.heap.size 39 3 (.slice (some ⟨g, 0, none⟩) j c) j (flatI L)) ∧ Hid (L.map Itv.it = srtI kind m ll j ∧ ItvOk w 0 base L ∧ ∀ v ∈ L, vecB v.it.pos 4 = true)) (fun _ i _ => ll.length - (intOf i).toNat)
  case atStart => exact ⟨0, _, _, [], Nat.zero_le _, rfl, rfl, Lib.hid ⟨below_alloc _ _, HE.out⟩, Lib.hid ⟨rfl, (fun v hv => by cases hv), (fun v hv => by cases hv)⟩⟩
  case round =>
    obtain ⟨j, g, c, L, hj, rfl, rfl, HX, HL2⟩ := hrel
    have hsx := HX.out.1.size
    by_cases hlt : j < ll.length
    · obtain ⟨bb, off, rfl, _, aj, cj, c0, c1, c2, hx⟩ := HI.out.at_ hlt
      replace c0 := cell_later HX.out.1 c0
      replace c1 := cell_later HX.out.1 c1
      replace c2 := cell_later HX.out.1 c2
      have VX := Lib.hid (HV.out.1 j hlt)
      have HS : Hid (srtI kind m ll (j + 1) = insI kind m (ll.getD j It.no) (srtI kind m ll j)) := Lib.hid rfl
      have HLL : Hid (L.length = j) := Lib.hid (by have := HX.out.2.1; rw [flatI_length] at this; omega)
      obtain ⟨x, ex⟩ : ∃ x, ll.getD j It.no = x := ⟨_, rfl⟩
      rw [ex] at c0 c1 c2 hx VX HS
      have hx4 : x.pos.length = 4 := by have := vecB_len VX.out; omega
      rw [hx4] at c1
      have hji : (j : Int) < ll.length := by omega
      have HXV : Hid (ItV w 0 base x aj cj) := Lib.hid hx
      have HC4 : Hid (itvCells ⟨x, aj, cj⟩ = [.int .i64 x.key, .slice aj 4 cj, .int .i64 x.tags]) := Lib.hid (by show itCells x aj cj = _; unfold itCells; rw [hx4])
      clear ex hx hx4
      rename World => wo
      go_wp2_with (at_builtin; refine append1 rfl _ _ 24 rfl w.heap.size 39 Try.underlying24 infoItem rfl (by omega) (by omega) (.slice (some ⟨g, 0, none⟩) j c) j (flatI L) rfl HX.out.2 [.int .i64 x.key, .slice aj 4 cj, .int .i64 x.tags] rfl rfl (by rw [← HC4.out]; exact itCells_one _ _ _) (by omega) hsx ?_; intro v6 w6 hown6 hg6; obtain ⟨g6, c6, rfl, hg0, hgc, hgc2⟩ := owns_shape hown6 (by omega); have HO6 := Lib.hid hown6; have HG6 := Lib.hid hg6; clear hown6 hg6)
      have HB6 : Hid (Below w.heap.size w w6) := Lib.hid (HX.out.1.grown HG6.out hsx (owns_block HX.out.2))
      obtain ⟨xv, hxv⟩ : ∃ xv : Itv, xv = ⟨x, aj, cj⟩ := ⟨_, rfl⟩
      have HXX : Hid (xv.it = x ∧ xv.at_ = aj ∧ xv.cap = cj) := Lib.hid (by rw [hxv]; exact ⟨rfl, rfl, rfl⟩)
      have HP : Hid (Below w.heap.size w w6 ∧ w6.ownsRow w.heap.size 39 3 (.slice (some ⟨g6, 0, none⟩) (j + 1) c6) (j + 1) (flatI (insAt L xv L.length))) := Lib.hid ⟨HB6.out, by
        have h := HO6.out
        rw [← HC4.out, ← hxv, ← flatI_one, ← flatI_app, ← insAt_end] at h
        exact h⟩
      clear hxv HO6 HG6 HB6 c0 c1 c2
      go_loopw [9] (fun i wr => ∃ q : Nat, q ≤ j ∧ i = .int .i64 (q : Int) ∧ Hid (Below w.heap.size w wr ∧ wr.ownsRow w.heap.size 39 3 (.slice (some ⟨g6, 0, none⟩) (j + 1) c6) (j + 1) (flatI (insAt L xv q))) ∧ Hid (∀ z, q ≤ z → z < L.length → ltI kind m x (L.getD z Itv.no).it = true)) (fun i _ => (intOf i).toNat)
      case atStart => exact ⟨j, Nat.le_refl _, by go_num, Lib.hid (by have := HP.out; rw [HLL.out] at this; exact this), Lib.hid fun z z1 z2 => absurd z1 (by rw [HLL.out] at z2; omega)⟩
      case round =>
        obtain ⟨q, hq, rfl, HR, HG⟩ := hrel
        have hsr := HR.out.1.size
        have HEND : Hid (∀ wz, Below wr.heap.size wr wz → (q = 0 ∨ ltI kind m x (L.getD (q - 1) Itv.no).it = false) → Hid (Below w.heap.size w wz ∧ wz.ownsRow w.heap.size 39 3 (.slice (some ⟨g6, 0, none⟩) (j + 1) c6) (j + 1) (flatI (insAt L xv q))) ∧ Hid ((insAt L xv q).map Itv.it = srtI kind m ll (j + 1) ∧ ItvOk w 0 base (insAt L xv q) ∧ ∀ v ∈ insAt L xv q, vecB v.it.pos 4 = true)) := Lib.hid fun wz hz hs => by
          refine ⟨Lib.hid ⟨HR.out.1.trans (hz.mono hsr), owns_upd HR.out.2 (Upd.of_below (lo := 0) (hi := 0) hz) (by omega)⟩, Lib.hid ⟨?_, fun v hv => ?_, fun v hv => ?_⟩⟩
          · rw [insAt_itv, HXX.out.1, HL2.out.1, HS.out]
            have hlen : (srtI kind m ll j).length = L.length := by rw [← HL2.out.1, List.length_map]
            refine insI_stop (HW.out j) (by rw [hlen, HLL.out]; exact hq) (fun z z1 z2 => ?_) (hs.imp id fun h => ?_)
            · rw [← HL2.out.1, itv_getD (by omega)]; exact HG.out z z1 (by omega)
            · by_cases hq0 : q = 0
              · subst hq0
                rw [← HL2.out.1]
                by_cases hL0 : 0 < L.length
                · rw [itv_getD hL0]; exact h
                · have hLn : L = [] := List.eq_nil_of_length_eq_zero (by omega)
                  rw [hLn] at h ⊢
                  exact h
              · rw [← HL2.out.1, itv_getD (by rw [HLL.out]; omega)]; exact h
          · rcases insAt_imem hv with rfl | hv
            · have h := HXV.out
              rw [← HXX.out.1, ← HXX.out.2.1, ← HXX.out.2.2] at h
              exact h
            · exact HL2.out.2.1 v hv
          · rcases insAt_imem hv with rfl | hv
            · rw [HXX.out.1]; exact VX.out
            · exact HL2.out.2.2 v hv
        by_cases hq0 : q = 0
        · subst hq0
          go_wp2_with fail
          go_quiet (fail)
          go_wp2_with fail
          go_roundw
          case rel =>
            have hz := HEND.out _ (Drawn.below ⟨nq, rfl⟩) (by simp)
            exact ⟨j + 1, g6, c6, _, by omega, rfl, by go_num, hz.1, hz.2⟩
          case measure => simp [intOf]; omega
        · obtain ⟨p, rfl⟩ : ∃ p, q = p + 1 := ⟨q - 1, by omega⟩
          have hpL : p < L.length := by have := HLL.out; omega
          have hL := insAt_length L xv (show p + 1 ≤ L.length by omega)
          have hx4 : x.pos.length = 4 := by have := vecB_len VX.out; omega
          have c0 := HR.out.2.cellAt ((p + 1) * 3) (by omega)
          have c1 := HR.out.2.cellAt ((p + 1) * 3 + 1) (by omega)
          have c2 := HR.out.2.cellAt ((p + 1) * 3 + 2) (by omega)
          have d0 := HR.out.2.cellAt (p * 3) (by omega)
          have d1 := HR.out.2.cellAt (p * 3 + 1) (by omega)
          have d2 := HR.out.2.cellAt (p * 3 + 2) (by omega)
          rw [flatI_0 (by omega), insAt_getI L xv Itv.no (by omega), HXX.out.1] at c0
          rw [flatI_1 (by omega), insAt_getI L xv Itv.no (by omega), HXX.out.1, HXX.out.2.1, HXX.out.2.2, hx4] at c1
          rw [flatI_2 (by omega), insAt_getI L xv Itv.no (by omega), HXX.out.1] at c2
          rw [flatI_0 (by omega), insAt_pre L xv Itv.no (Nat.lt_succ_self p) (by omega)] at d0
          rw [flatI_1 (by omega), insAt_pre L xv Itv.no (Nat.lt_succ_self p) (by omega)] at d1
          rw [flatI_2 (by omega), insAt_pre L xv Itv.no (Nat.lt_succ_self p) (by omega)] at d2
          have HSW := Lib.hid (insAt_swap L xv Itv.no hpL)
          have vy := HL2.out.2.2 _ (itv_mem hpL)
          have oy := HL2.out.2.1 _ (itv_mem hpL)
          rw [Nat.add_sub_cancel] at HEND
          obtain ⟨⟨y, ya, yc⟩, ey⟩ : ∃ y, L.getD p Itv.no = y := ⟨_, rfl⟩
          rw [ey] at d0 d1 d2 HSW vy oy HEND
          dsimp only at d0 d1 d2 vy oy HEND
          have hy4 : y.pos.length = 4 := by have := vecB_len vy; omega
          rw [hy4] at d1
          have HEY := Lib.hid ey
          have HYC : Hid (itvCells ⟨y, ya, yc⟩ = [.int .i64 y.key, .slice ya 4 yc, .int .i64 y.tags]) := Lib.hid (by show itCells y ya yc = _; unfold itCells; rw [hy4])
          have HVY := Lib.hid (And.intro vy oy)
          have hqn : (p : Int) + 1 < (j : Int) + 1 := by have := HLL.out; omega
          have hqn0 : (p : Int) < (j : Int) + 1 := by omega
          have hwq : IntKind.i64.wrap (p : Int) = (p : Int) := wrap_in (by omega)
          have hg0' : decide ((0 : Int) < (p : Int) + 1) = true := decide_eq_true (by omega)
          have HLQ := Lib.hid (And.intro hL (And.intro hpL hq))
          have HCC := Lib.hid (And.intro (And.intro c0 (And.intro c1 c2)) (And.intro d0 (And.intro d1 d2)))
          have CX := Lib.hid (met_below (fun w' hw' => hit_any w' 0 base lo hi aj b cj capm kind x m (HXV.out.below (HR.out.1.trans (hw'.mono hsr))).1 (HM.out.below (HR.out.1.trans (hw'.mono hsr))) VX.out HV.out.2) (w := wr))
          have CY := Lib.hid (met_below (fun w' hw' => hit_any w' 0 base lo hi ya b yc capm kind y m (HVY.out.2.below (HR.out.1.trans (hw'.mono hsr))).1 (HM.out.below (HR.out.1.trans (hw'.mono hsr))) HVY.out.1 HV.out.2) (w := wr))
          have CN := Lib.hid (met_below (fun w' hw' => nearer_any w' (htIt kind m x) (htIt kind m y)) (w := wr))
          obtain ⟨hX, ehX⟩ : ∃ h, htV (htIt kind m x) = h := ⟨_, rfl⟩
          obtain ⟨hY, ehY⟩ : ∃ h, htV (htIt kind m y) = h := ⟨_, rfl⟩
          rw [show ltH (htIt kind m x) (htIt kind m y) = ltI kind m x y from rfl, ehX, ehY] at CN
          rw [ehX] at CX
          rw [ehY] at CY
          have r0 := cell_regrown c0
          have r1 := cell_regrown c1
          have r2 := cell_regrown c2
          have s0 := cell_regrown d0
          have s1 := cell_regrown d1
          have s2 := cell_regrown d2
          clear ey hL c0 c1 c2 d0 d1 d2 hq hpL hx4 hy4 vy oy ehX ehY hq0
          cases hlt2 : ltI kind m x y
          · rw [hlt2] at CN
            replace HEND := Lib.hid fun wz hz => HEND.out wz hz (.inr hlt2)
            clear hlt2
            go_wp2_with fail
            refine wp_region_quiet_below (by kernel_rfl) (by kernel_rfl) ?_
            repeat (go_big_quiet_step (first | (go_at_call 75; first | (with_reducible exact CX.out _ _) | (with_reducible exact CY.out _ _)) | (go_at_call 74; exact CN.out _ _)))
            refine wpQuiet_nil ?_
            intro _ hw'
            obtain ⟨⟨dq, osq⟩, hw''⟩ := hw'
            subst hw''
            have HQ : Hid (Below wr.heap.size wr (Go.Sort.grow (redrawn wr dq) osq)) := Lib.hid (below_regrown wr dq osq)
            obtain ⟨w3, hw3⟩ : ∃ w3, Go.Sort.grow (redrawn wr dq) osq = w3 := ⟨_, rfl⟩
            rw [hw3] at HQ ⊢
            clear hw3 r0 r1 r2 s0 s1 s2 CX CY CN
            have hz := HEND.out w3 HQ.out
            clear HCC
            go_wp2_with fail
            go_roundw
            case rel => exact ⟨j + 1, g6, c6, _, by omega, rfl, by go_num, hz.1, hz.2⟩
            case measure => simp [intOf]; omega
          · rw [hlt2] at CN
            have HLT := Lib.hid hlt2
            clear hlt2 HEND
            go_wp2_with fail
            refine wp_region_quiet_below (by kernel_rfl) (by kernel_rfl) ?_
            repeat (go_big_quiet_step (first | (go_at_call 75; first | (with_reducible exact CX.out _ _) | (with_reducible exact CY.out _ _)) | (go_at_call 74; exact CN.out _ _)))
            refine wpQuiet_nil ?_
            intro _ hw'
            obtain ⟨⟨dq, osq⟩, hw''⟩ := hw'
            subst hw''
            have HQ : Hid (Below wr.heap.size wr (Go.Sort.grow (redrawn wr dq) osq)) := Lib.hid (below_regrown wr dq osq)
            obtain ⟨w3, hw3⟩ : ∃ w3, Go.Sort.grow (redrawn wr dq) osq = w3 := ⟨_, rfl⟩
            rw [hw3] at HQ ⊢
            clear hw3 r0 r1 r2 s0 s1 s2 CX CY CN
            have HR3 : Hid (Below w.heap.size w w3 ∧ w3.ownsRow w.heap.size 39 3 (.slice (some ⟨g6, 0, none⟩) (j + 1) c6) (j + 1) (flatI (insAt L xv (p + 1)))) := Lib.hid ⟨HR.out.1.trans (HQ.out.mono hsr), owns_upd HR.out.2 (Upd.of_below (lo := 0) (hi := 0) HQ.out) (by omega)⟩
            have hsr3 := HR3.out.1.size
            have c0 := cell_later HQ.out HCC.out.1.1
            have c1 := cell_later HQ.out HCC.out.1.2.1
            have c2 := cell_later HQ.out HCC.out.1.2.2
            have d0 := cell_later HQ.out HCC.out.2.1
            have d1 := cell_later HQ.out HCC.out.2.2.1
            have d2 := cell_later HQ.out HCC.out.2.2.2
            have f0 := HR3.out.2.frozenAt ((p + 1) * 3)
            have f1 := HR3.out.2.frozenAt ((p + 1) * 3 + 1)
            have f2 := HR3.out.2.frozenAt ((p + 1) * 3 + 2)
            have e0 := HR3.out.2.frozenAt (p * 3)
            have e1 := HR3.out.2.frozenAt (p * 3 + 1)
            have e2 := HR3.out.2.frozenAt (p * 3 + 2)
            have hglt : g6 < w3.heap.size := (HR3.out.2.lt g6 rfl).2
            clear HCC
            go_wp2_with fail
            refine ⟨⟨p, by have := HLQ.out.2.2; omega, rfl, Lib.hid ⟨?_, ?_⟩, Lib.hid fun z z1 z2 => ?_⟩, by simp [intOf]⟩
            · exact (HR3.out.1.trans ((upd_set6 w3 g6 _ _ _ _ _ _ _ _ _ _ _ _).low hg0 hsr3)).alloc (by simp [World.setCell]; omega) _
            · have h := ((((((HR3.out.2.stored ((p + 1) * 3) (.int .i64 y.key)).1.stored ((p + 1) * 3 + 1) (.slice ya 4 yc)).1.stored ((p + 1) * 3 + 2) (.int .i64 y.tags)).1.stored (p * 3) (.int .i64 x.key)).1.stored (p * 3 + 1) (.slice aj 4 cj)).1.stored (p * 3 + 2) (.int .i64 x.tags)).1
              have hx4 : x.pos.length = 4 := by have := vecB_len VX.out; omega
              have hy4 : y.pos.length = 4 := by have := vecB_len HVY.out.1; omega
              have hL1 := HLQ.out.1
              have hL2 := HLQ.out.2.1
              have t1 := flatI_set (l := insAt L xv (p + 1)) ⟨y, ya, yc⟩ (show p + 1 < _ by omega)
              have t2 := flatI_set (l := (insAt L xv (p + 1)).set (p + 1) ⟨y, ya, yc⟩) xv (show p < _ by rw [List.length_set]; omega)
              rw [HXX.out.1, HXX.out.2.1, HXX.out.2.2, hx4] at t2
              dsimp only at t1
              rw [hy4] at t1
              rw [t1, t2, HSW.out] at h
              exact h.alloc _
            · by_cases hzp : z = p
              · subst hzp
                rw [HEY.out]
                exact HLT.out
              · exact HG.out z (by omega) z2
    · have hje : j = ll.length := by omega
      subst hje
      have HF : Hid (NewByD w base (byD kind m ll) (.returned (.slice (some ⟨g, 0, none⟩) ll.length c)) wr) := Lib.hid (byD_end HX.out.2 HL2.out.1 HL2.out.2.1 HX.out.1)
      go_wp2_with fail
      go_ret
      exact HF.out
end Go.Proofs.Ytlammenejgagdaa
