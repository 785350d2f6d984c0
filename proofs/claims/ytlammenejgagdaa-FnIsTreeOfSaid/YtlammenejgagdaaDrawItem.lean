/-
  Drawn items and stores: how they lie in memory, and how many items they have.
-/
import Derived.Test.YtlammenejgagdaaItemOwn
import Derived.Test.YtlammenejgagdaaStoreWalks
import Derived.Test.YtlammenejgagdaaDrawVec
import Derived.Deep.RegionHeld3
namespace Go.Proofs.Ytlammenejgagdaa
open Go.RowKit
set_option linter.unusedVariables false

/-- an item with memory of the call's own -/
def CopyPost (w : World) (x : It) (e : Ending) (w' : World) : Prop :=
  ∃ g c, e = .returned (.agg #[.int .i64 x.key, .slice (some ⟨g, 0, none⟩) x.pos.length c, .int .i64 x.tags]) ∧ VecV w' w.heap.size w'.heap.size x (some ⟨g, 0, none⟩) c ∧ Below w.heap.size w w'

set_option maxHeartbeats 1000000 in
theorem copyItem_any (w : World) (lo hi : Nat) (a : Option Addr) (cap : Nat) (x : It) (h : ItV w lo hi x a cap) (h1 : 1 ≤ x.pos.length) (h2 : x.pos.length ≤ 1000) :
    Calls Try.prog 115 #[.agg #[.int .i64 x.key, .slice a x.pos.length cap, .int .i64 x.tags]] w (CopyPost w x) := by
  have hB0 := below_alloc w (.cells #[.int .i64 x.key, .slice a x.pos.length cap, .int .i64 x.tags] 39)
  have hB1 := below_alloc (w.alloc (.cells #[.int .i64 x.key, .slice a x.pos.length cap, .int .i64 x.tags] 39)) (.cells #[.int .i64 0, .slice none 0 0, .int .i64 0] 39)
  have hz := heap_alloc_new (w.alloc (.cells #[.int .i64 x.key, .slice a x.pos.length cap, .int .i64 x.tags] 39)) (.cells #[.int .i64 0, .slice none 0 0, .int .i64 0] 39)
  have hbx : _ = some _ := (hB1.block w.heap.size (by simp)).trans (heap_alloc_new w _)
  have hs1 := hB1.size
  simp only [World.size_alloc] at hz hs1
  have H := Lib.hid h
  clear h
  have hx := (H.out.1.below hB0).below hB1
  have HB := Lib.hid (hB0.trans (hB1.mono hB0.size))
  have hsz : ((w.alloc (.cells #[.int .i64 x.key, .slice a x.pos.length cap, .int .i64 x.tags] 39)).alloc (.cells #[.int .i64 0, .slice none 0 0, .int .i64 0] 39)).heap.size = w.heap.size + 1 + 1 := by simp
  clear hB0 hB1
  go_enter Try.func115, Try.ntmps115
  go_wp2_with fail
  obtain ⟨W, hW⟩ : ∃ W, (w.alloc (.cells #[.int .i64 x.key, .slice a x.pos.length cap, .int .i64 x.tags] 39)).alloc (.cells #[.int .i64 0, .slice none 0 0, .int .i64 0] 39) = W := ⟨_, rfl⟩
  rw [hW] at hx HB hz hbx hsz ⊢
  clear hW
  have HSZ := Lib.hid hsz
  have HZ := Lib.hid hz
  have HX := Lib.hid hbx
  have c0 := cells3_0 hbx
  have c1 := cells3_1 hbx
  have c2 := cells3_2 hbx
  have HKD := Lib.hid (show ∀ w', Below W.heap.size W w' → w'.cell? ⟨w.heap.size, 0, none⟩ = some (.int .i64 x.key) ∧ w'.cell? ⟨w.heap.size, 1, none⟩ = some (.slice a x.pos.length cap) ∧ w'.cell? ⟨w.heap.size, 2, none⟩ = some (.int .i64 x.tags) from fun w' bl => ⟨cell_later bl c0, cell_later bl c1, cell_later bl c2⟩)
  have hd : Below W.heap.size W W.drew := (Below.refl _ _).drew
  have HC := Lib.hid (copyInts_any W.drew lo hi a cap x.pos (hx.below hd) (by omega) h1)
  have HD := Lib.hid hd
  clear hsz hz hbx hx hd
  go_region_held3 (fun w' => w'.cell? ⟨w.heap.size, 0, none⟩ = some (.int .i64 x.key) ∧ w'.cell? ⟨w.heap.size, 1, none⟩ = some (.slice a x.pos.length cap) ∧ w'.cell? ⟨w.heap.size, 2, none⟩ = some (.int .i64 x.tags))
    (first | go_keep | exact HKD.out _ HD.out | exact HKD.out _ HB3.out)
    (first
      | (go_at_call 59; refine HC.out.mono ?_; rintro e w3 ⟨g, gc, rfl, hg1, hg2, hown, hb3⟩; have HB3 : Hid (Below W.heap.size W w3) := Lib.hid (HD.out.trans hb3); have HO := Lib.hid hown; clear hown hb3; have hz3 := (HB3.out.block (w.heap.size + 1) (by have := HSZ.out; omega)).trans HZ.out; have z0 := cells3_0 hz3; have z1 := cells3_1 hz3; have z2 := cells3_2 hz3; have zf := cells3_f hz3; have HZ3 := Lib.hid hz3; clear hz3))
  go_wp2_with fail
  obtain ⟨s0, s1, s2⟩ := store3c HZ3.out (.int .i64 x.key) (.slice (some ⟨g, 0, none⟩) x.pos.length gc) (.int .i64 x.tags)
  (try simp only [Exit.inBlock, Exit.then])
  refine bodyPost_ret (v := .agg #[.int .i64 x.key, .slice (some ⟨g, 0, none⟩) x.pos.length gc, .int .i64 x.tags]) (by simp [results, Try.results115, go_sem, s0, s1, s2]) rfl ?_
  have u := upd_store3 w3 (w.heap.size + 1) (.int .i64 x.key) (.slice (some ⟨g, 0, none⟩) x.pos.length gc) (.int .i64 x.tags)
  have hb3 := HB3.out
  have hsW := HSZ.out
  have hsd : W.drew.heap.size = W.heap.size := rfl
  have hs3 := hb3.size
  have ho := HO.out
  rw [hsd] at ho
  have hb := HB.out
  obtain ⟨h3, h4, h5, h6⟩ := H.out
  obtain ⟨a', c', hv, hi'⟩ := ints_of_owns ho h3.ok h3.len
  simp only [Value.slice.injEq] at hv
  obtain ⟨rfl, _, rfl⟩ := hv
  exact ⟨g, gc, rfl, ⟨(hi'.upd u (by omega)).wide (by omega) u.size, IntBlk.upd (lo' := 0) (hi' := 0) (intBlk_of_owns ho) hi' u (by omega), ⟨hg1, hg2⟩, h5, h6⟩, (hb.trans (hb3.mono hb.size)).trans (u.low (by omega) (by omega))⟩

/-- a slice of items of the call's own, as its caller gets it -/
def GotItems (w : World) (n : Nat) (e : Ending) (w' : World) : Prop :=
  ∃ (a : Option Addr) (cap : Nat) (ll : List It), e = .returned (.slice a ll.length cap) ∧ OwnItems w' w.heap.size w'.heap.size (.slice a ll.length cap) ll ∧ ll.length ≤ n ∧ Below w.heap.size w w'

set_option maxHeartbeats 2000000 in
theorem put_any (w : World) (lo hi lo' hi' : Nat) (a a' : Option Addr) (cap cap' : Nat) (ll : List It) (x : It) (h : Items w lo hi a ll) (hx : ItV w lo' hi' x a' cap') (hv : ∀ k, k < ll.length → vecB (ll.getD k It.no).pos 4 = true) (hxv : vecB x.pos 4 = true) (hl : ll.length ≤ 16) :
    Calls Try.prog 106 #[.slice a ll.length cap, .agg #[.int .i64 x.key, .slice a' x.pos.length cap', .int .i64 x.tags]] w (GotItems w (2 * ll.length + 1)) := by
  have HV := Lib.hid hv
  have HXV := Lib.hid hxv
  have HXI := Lib.hid hx
  have hB0 := below_alloc w (.cells #[.int .i64 x.key, .slice a' x.pos.length cap', .int .i64 x.tags] 39)
  have HB0 := Lib.hid hB0
  have HX0 : Hid (((w.alloc (.cells #[.int .i64 x.key, .slice a' x.pos.length cap', .int .i64 x.tags] 39)).alloc (.cells #[] 39)).heap[w.heap.size]? = some (.cells #[.int .i64 x.key, .slice a' x.pos.length cap', .int .i64 x.tags] 39 (0, 0))) := Lib.hid (((below_alloc _ _).block w.heap.size (by simp)).trans (heap_alloc_new w _))
  have HE : Hid (World.ownsRow ((w.alloc (.cells #[.int .i64 x.key, .slice a' x.pos.length cap', .int .i64 x.tags] 39)).alloc (.cells #[] 39)) (w.heap.size + 1) 39 3 (.slice (some ⟨w.heap.size + 1, 0, none⟩) 0 0) 0 []) := by
    have := owns_empty (w.alloc (.cells #[.int .i64 x.key, .slice a' x.pos.length cap', .int .i64 x.tags] 39)) (w.heap.size + 1) 39 3 (by simp)
    rw [World.size_alloc] at this
    exact this
  clear hv hxv hx hB0
  go_enter Try.func106, Try.ntmps106
  go_wp2_with fail
  go_loopw [5, 6] (fun v i wr => ∃ (k : Nat) (ol : List It), k ≤ ll.length ∧ i = .int .i64 (k : Int) ∧ ol.length ≤ k + 0 ∧ Hid (OwnItems wr (w.heap.size + 1) wr.heap.size v ol) ∧ Hid (Below w.heap.size w wr) ∧ Hid (wr.heap[w.heap.size]? = some (.cells #[.int .i64 x.key, .slice a' x.pos.length cap', .int .i64 x.tags] 39 (0, 0)))) (fun _ i _ => ll.length - (intOf i).toNat)
  case atStart => exact ⟨0, [], Nat.zero_le _, rfl, Nat.zero_le _, ⟨[], HE.out, rwsI_nil _ _ _⟩, HB0.out.trans ((below_alloc _ _).mono HB0.out.size), HX0.out⟩
  case round =>
    obtain ⟨k, ol, hk, rfl, hol, HO, HB, HX⟩ := hrel
    by_cases hlt : k < ll.length
    · have hs := h.below HB.out
      obtain ⟨b, off, rfl, _, hbh, aj, cj, c0, c1, c2, hx, hcj, hk1, hk2⟩ := hs.at_ hlt
      have hv4 := Lib.hid (HV.out k hlt)
      obtain ⟨y, ey⟩ : ∃ y, ll.getD k It.no = y := ⟨_, rfl⟩
      rw [ey] at c0 c1 c2 hx hcj hk1 hk2 hv4
      clear ey
      have d0 := cells3_0 HX.out
      have d1 := cells3_1 HX.out
      have d2 := cells3_2 HX.out
      have hxb := (Array.getElem?_eq_some_iff.1 HX.out).1
      by_cases hlt2 : y.key < x.key
      · go_wp2_with fail
        go_quiet (fail)
        go_wp2_with fail
        refine (copyItem_any _ lo hi aj cj y ⟨hx.drawn ⟨_, rfl⟩, hcj, hk1, hk2⟩ (by have := vecB_len hv4.out; omega) (by have := vecB_len hv4.out; omega)).mono ?_
        rintro e w3 ⟨g, gc, rfl, hvv, hb3⟩
        have HVV := Lib.hid hvv
        have hb3' : Below wr.heap.size wr w3 := (below_drewN wr nq).trans hb3
        have HB3 := Lib.hid hb3'
        have hs3 := hb3'.size
        clear hvv hb3 hb3'
        obtain ⟨vs, hown, hrw⟩ := HO.out
        have HW := Lib.hid (owns_upd hown (Upd.of_below (lo := 0) (hi := 0) HB3.out) (by omega))
        have HRW := Lib.hid (hrw.upd (Upd.of_below (lo := 0) (hi := 0) HB3.out) (by omega))
        have hbk := Lib.hid (owns_block hown)
        clear hown hrw
        go_wp2_with (at_builtin; refine append1 rfl _ _ 24 rfl (w.heap.size + 1) 39 Try.underlying24 infoItem rfl (by omega) (by omega) _ ol.length vs rfl HW.out (itCells y (some ⟨g, 0, none⟩) gc) rfl rfl (itCells_one _ _ _) (by omega) (by omega) ?_; intro v' w4 hown4 hg4; have HO4 := Lib.hid hown4; have HG4 := Lib.hid hg4; clear hown4 hg4)
        have hs4 := HG4.out.size
        have R1 := (HRW.out.wide (Nat.le_refl _) hs3).snoc (c := gc) (HVV.out.wide (by show w.heap.size + 1 ≤ wr.heap.size; omega) (Nat.le_refl _))
        have R2 := (R1.grown HW.out (by decide) HG4.out).wide (Nat.le_refl _) hs4
        go_roundw
        case rel => exact ⟨k + 1, ol ++ [y], by omega, by go_num, by simp; omega, ⟨vs ++ itCells y (some ⟨g, 0, none⟩) gc, by simpa using HO4.out, R2⟩, HB.out.trans ((HB3.out.mono HB.out.size).grown HG4.out (by have := HB.out.size; omega) (fun j hj => by have := hbk.out j hj; omega)), by rw [HG4.out.block _ (by omega) (fun e => by have := hbk.out _ e.symm; omega), HB3.out.block _ hxb]; exact HX.out⟩
        case measure => simp [intOf]; omega
      · go_wp2_with fail
        go_quiet (fail)
        go_wp2_with fail
        go_roundw
        case rel => exact ⟨k + 1, ol, by omega, by go_num, by omega, (HO.out.below (below_drewN _ _)).wide (below_drewN _ _).size, HB.out.trans ((below_drewN _ _).mono HB.out.size), HX.out⟩
        case measure => simp [intOf]; omega
    · have d0 := cells3_0 HX.out
      have d1 := cells3_1 HX.out
      have d2 := cells3_2 HX.out
      have hxb := (Array.getElem?_eq_some_iff.1 HX.out).1
      go_wp2_with fail
      refine (copyItem_any _ lo' hi' a' cap' x (HXI.out.below HB.out) (by have := vecB_len HXV.out; omega) (by have := vecB_len HXV.out; omega)).mono ?_
      rintro e w3 ⟨g, gc, rfl, hvv, hb3⟩
      have HVV := Lib.hid hvv
      have HB3 := Lib.hid hb3
      have hs3 := hb3.size
      clear hvv hb3
      obtain ⟨vs, hown, hrw⟩ := HO.out
      have HW := Lib.hid (owns_upd hown (Upd.of_below (lo := 0) (hi := 0) HB3.out) (by omega))
      have HRW := Lib.hid (hrw.upd (Upd.of_below (lo := 0) (hi := 0) HB3.out) (by omega))
      have hbk := Lib.hid (owns_block hown)
      clear hown hrw
      go_wp2_with (at_builtin; refine append1 rfl _ _ 24 rfl (w.heap.size + 1) 39 Try.underlying24 infoItem rfl (by omega) (by omega) _ ol.length vs rfl HW.out (itCells x (some ⟨g, 0, none⟩) gc) rfl rfl (itCells_one _ _ _) (by omega) (by omega) ?_; intro v' w4 hown4 hg4; have HO4 := Lib.hid hown4; have HG4 := Lib.hid hg4; clear hown4 hg4)
      have hs4 := HG4.out.size
      have R1 := (HRW.out.wide (Nat.le_refl _) hs3).snoc (c := gc) (HVV.out.wide (by show w.heap.size + 1 ≤ wr.heap.size; omega) (Nat.le_refl _))
      have R2 := (R1.grown HW.out (by decide) HG4.out).wide (Nat.le_refl _) hs4
      have HO5 : Hid (OwnItems w4 (w.heap.size + 1) w4.heap.size v' (ol ++ [x])) := Lib.hid ⟨vs ++ itCells x (some ⟨g, 0, none⟩) gc, by simpa using HO4.out, R2⟩
      have HB5 : Hid (Below w.heap.size w w4) := Lib.hid (HB.out.trans ((HB3.out.mono HB.out.size).grown HG4.out (by have := HB.out.size; omega) (fun j hj => by have := hbk.out j hj; omega)))
      have HX5 : Hid (w4.heap[w.heap.size]? = some (.cells #[.int .i64 x.key, .slice a' x.pos.length cap', .int .i64 x.tags] 39 (0, 0))) := Lib.hid (by rw [HG4.out.block _ (by omega) (fun e => by have := hbk.out _ e.symm; omega), HB3.out.block _ hxb]; exact HX.out)
      clear HO HB HX HW HRW hbk HO4 HG4 R1 R2 d0 d1 d2 HB3 HVV HE HX0 HB0
      go_loopw [5, 7] (fun v i wr => ∃ (k : Nat) (ol : List It), k ≤ ll.length ∧ i = .int .i64 (k : Int) ∧ ol.length ≤ k + (ll.length + 1) ∧ Hid (OwnItems wr (w.heap.size + 1) wr.heap.size v ol) ∧ Hid (Below w.heap.size w wr) ∧ Hid (wr.heap[w.heap.size]? = some (.cells #[.int .i64 x.key, .slice a' x.pos.length cap', .int .i64 x.tags] 39 (0, 0)))) (fun _ i _ => ll.length - (intOf i).toNat)
      case atStart => exact ⟨0, ol ++ [x], Nat.zero_le _, rfl, by simp; omega, HO5.out, HB5.out, HX5.out⟩
      case round =>
        obtain ⟨k, ol, hk, rfl, hol, HO, HB, HX⟩ := hrel
        by_cases hlt : k < ll.length
        · have hs := h.below HB.out
          obtain ⟨b, off, rfl, _, hbh, aj, cj, c0, c1, c2, hx, hcj, hk1, hk2⟩ := hs.at_ hlt
          have hv4 := Lib.hid (HV.out k hlt)
          obtain ⟨y, ey⟩ : ∃ y, ll.getD k It.no = y := ⟨_, rfl⟩
          rw [ey] at c0 c1 c2 hx hcj hk1 hk2 hv4
          clear ey
          have d0 := cells3_0 HX.out
          have d1 := cells3_1 HX.out
          have d2 := cells3_2 HX.out
          have hxb := (Array.getElem?_eq_some_iff.1 HX.out).1
          by_cases hlt2 : x.key < y.key
          · go_wp2_with fail
            go_quiet (fail)
            go_wp2_with fail
            refine (copyItem_any _ lo hi aj cj y ⟨hx.drawn ⟨_, rfl⟩, hcj, hk1, hk2⟩ (by have := vecB_len hv4.out; omega) (by have := vecB_len hv4.out; omega)).mono ?_
            rintro e w3 ⟨g, gc, rfl, hvv, hb3⟩
            have HVV := Lib.hid hvv
            have hb3' : Below wr.heap.size wr w3 := (below_drewN wr nq).trans hb3
            have HB3 := Lib.hid hb3'
            have hs3 := hb3'.size
            clear hvv hb3 hb3'
            obtain ⟨vs, hown, hrw⟩ := HO.out
            have HW := Lib.hid (owns_upd hown (Upd.of_below (lo := 0) (hi := 0) HB3.out) (by omega))
            have HRW := Lib.hid (hrw.upd (Upd.of_below (lo := 0) (hi := 0) HB3.out) (by omega))
            have hbk := Lib.hid (owns_block hown)
            clear hown hrw
            go_wp2_with (at_builtin; refine append1 rfl _ _ 24 rfl (w.heap.size + 1) 39 Try.underlying24 infoItem rfl (by omega) (by omega) _ ol.length vs rfl HW.out (itCells y (some ⟨g, 0, none⟩) gc) rfl rfl (itCells_one _ _ _) (by omega) (by omega) ?_; intro v' w4 hown4 hg4; have HO4 := Lib.hid hown4; have HG4 := Lib.hid hg4; clear hown4 hg4)
            have hs4 := HG4.out.size
            have R1 := (HRW.out.wide (Nat.le_refl _) hs3).snoc (c := gc) (HVV.out.wide (by show w.heap.size + 1 ≤ wr.heap.size; omega) (Nat.le_refl _))
            have R2 := (R1.grown HW.out (by decide) HG4.out).wide (Nat.le_refl _) hs4
            go_roundw
            case rel => exact ⟨k + 1, ol ++ [y], by omega, by go_num, by simp; omega, ⟨vs ++ itCells y (some ⟨g, 0, none⟩) gc, by simpa using HO4.out, R2⟩, HB.out.trans ((HB3.out.mono HB.out.size).grown HG4.out (by have := HB.out.size; omega) (fun j hj => by have := hbk.out j hj; omega)), by rw [HG4.out.block _ (by omega) (fun e => by have := hbk.out _ e.symm; omega), HB3.out.block _ hxb]; exact HX.out⟩
            case measure => simp [intOf]; omega
          · go_wp2_with fail
            go_quiet (fail)
            go_wp2_with fail
            go_roundw
            case rel => exact ⟨k + 1, ol, by omega, by go_num, by omega, (HO.out.below (below_drewN _ _)).wide (below_drewN _ _).size, HB.out.trans ((below_drewN _ _).mono HB.out.size), HX.out⟩
            case measure => simp [intOf]; omega
        · go_wp2_with fail
          go_ret
          obtain ⟨vs, q1, q2⟩ := HO.out
          obtain ⟨ar, capr, rfl, _⟩ := owns_form q1
          have q3 : OwnItems wr w.heap.size wr.heap.size (.slice ar ol.length capr) ol := OwnItems.low ⟨vs, q1, q2⟩ (by omega)
          exact ⟨ar, capr, ol, rfl, q3, by omega, HB.out⟩
end Go.Proofs.Ytlammenejgagdaa
