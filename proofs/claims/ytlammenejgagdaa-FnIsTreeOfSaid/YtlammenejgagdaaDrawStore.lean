/-
  Drawn stores: PutItem, someItem, anyItem, someStore, anyStore of the reference.
-/
import Derived.Test.YtlammenejgagdaaDrawItem
import Derived.Deep.RegionWith
import Derived.Handy
import Derived.Deep.Cut
namespace Go.Proofs.Ytlammenejgagdaa
open Go.RowKit
set_option linter.unusedVariables false

def PutPost (w : World) (e : Ending) (w' : World) : Prop :=
  ∃ (a : Option Addr) (cap : Nat) (ll : List It) (ok : Bool), e = .returned (.tuple #[.slice a ll.length cap, .bool ok]) ∧ OwnItems w' w.heap.size w'.heap.size (.slice a ll.length cap) ll ∧ (ll.length ≤ 16 ∧ storeB ll = true) ∧ Below w.heap.size w w'
theorem ownItems_nil (w : World) (lo hi : Nat) : OwnItems w lo hi (.slice none 0 0) [] := ⟨[], ⟨rfl, .inl ⟨rfl, rfl⟩⟩, rwsI_nil _ _ _⟩
theorem putPost_nil {w w' : World} (h : Below w.heap.size w w') : PutPost w (.returned (.tuple #[.slice none 0 0, .bool false])) w' := ⟨none, 0, [], false, rfl, ownItems_nil _ _ _, ⟨by simp, rfl⟩, h⟩

set_option maxHeartbeats 1000000 in
theorem PutItem_any (w : World) (lo hi lo' hi' : Nat) (a a' : Option Addr) (cap cap' : Nat) (ll : List It) (x : It) (h : Items w lo hi a ll) (hx : ItV w lo' hi' x a' cap') :
    Calls Try.prog 85 #[.slice a ll.length cap, .agg #[.int .i64 x.key, .slice a' x.pos.length cap', .int .i64 x.tags]] w (PutPost w) := by
  have hB0 := below_alloc w (.cells #[.int .i64 x.key, .slice a' x.pos.length cap', .int .i64 x.tags] 39)
  have hz := heap_alloc_new w (.cells #[.int .i64 x.key, .slice a' x.pos.length cap', .int .i64 x.tags] 39)
  replace h := h.below hB0
  replace hx := hx.below hB0
  have HB := Lib.hid hB0
  have HZ := Lib.hid hz
  have d0 := cells3_0 hz
  have d1 := cells3_1 hz
  have d2 := cells3_2 hz
  have D := Lib.hid (show ∀ w', Below (w.alloc (.cells #[.int .i64 x.key, .slice a' x.pos.length cap', .int .i64 x.tags] 39)).heap.size (w.alloc (.cells #[.int .i64 x.key, .slice a' x.pos.length cap', .int .i64 x.tags] 39)) w' → w'.cell? ⟨w.heap.size, 0, none⟩ = some (.int .i64 x.key) ∧ w'.cell? ⟨w.heap.size, 1, none⟩ = some (.slice a' x.pos.length cap') ∧ w'.cell? ⟨w.heap.size, 2, none⟩ = some (.int .i64 x.tags) from fun w' bl => ⟨cell_later bl d0, cell_later bl d1, cell_later bl d2⟩)
  clear hB0 hz d0 d1 d2
  cases hs : storeB ll
  · go_enter Try.func85, Try.ntmps85
    go_wp2_with fail
    refine (specValidStoreIn _ _ _ _ _ _ h).mono ?_
    rintro e w2 ⟨rfl, hb2⟩
    have HB2 := Lib.hid (HB.out.trans (hb2.mono HB.out.size))
    clear hb2
    go_wp2_with fail
    go_ret2
    exact putPost_nil HB2.out
  · have hv := Lib.hid (fun k (hk : k < ll.length) => storeB_vec hs hk)
    have hl := storeB_len hs
    have hsx := Lib.hid hs
    cases hi : itemB x
    · go_enter Try.func85, Try.ntmps85
      go_wp2_with fail
      refine (specValidStoreIn _ _ _ _ _ _ h).mono ?_
      rintro e w2 ⟨rfl, hb2⟩
      have HB2 := Lib.hid (HB.out.trans (hb2.mono HB.out.size))
      replace hx := hx.below hb2
      obtain ⟨d0, d1, d2⟩ := D.out w2 hb2
      clear hb2
      go_wp2_with fail
      refine (validItem_any _ _ _ _ _ x hx.1).mono ?_
      rintro e w3 ⟨rfl, hb3⟩
      replace HB2 := Lib.hid (HB2.out.trans (hb3.mono HB2.out.size))
      clear hb3 d0 d1 d2
      go_wp2_with fail
      go_ret2
      exact putPost_nil HB2.out
    · have HI := Lib.hid (itemB_vec hi)
      go_enter Try.func85, Try.ntmps85
      go_wp2_with fail
      refine (specValidStoreIn _ _ _ _ _ _ h).mono ?_
      rintro e w2 ⟨rfl, hb2⟩
      have HB2 := Lib.hid (HB.out.trans (hb2.mono HB.out.size))
      have HW2 := Lib.hid hb2
      replace h := h.below hb2
      replace hx := hx.below hb2
      obtain ⟨d0, d1, d2⟩ := D.out w2 hb2
      clear hb2
      go_wp2_with fail
      refine (validItem_any _ _ _ _ _ x hx.1).mono ?_
      rintro e w3 ⟨rfl, hb3⟩
      replace HB2 := Lib.hid (HB2.out.trans (hb3.mono HB2.out.size))
      replace h := h.below hb3
      replace hx := hx.below hb3
      obtain ⟨d0', d1', d2'⟩ := D.out w3 (HW2.out.trans (hb3.mono HW2.out.size))
      clear hb3 d0 d1 d2
      go_wp2_with fail
      refine (put_any _ _ _ _ _ _ _ _ _ _ x h hx hv.out HI.out hl).mono ?_
      rintro e w4 ⟨a4, cap4, l4, rfl, ho4, hl4, hb4⟩
      have HO4 := Lib.hid ho4
      obtain ⟨ar, capr, hv4, hi4, hc4⟩ := items_of_owns ho4 (by omega) (Nat.le_refl _)
      simp only [Value.slice.injEq] at hv4
      obtain ⟨rfl, _, rfl⟩ := hv4
      have hs32 := HB2.out.size
      replace HB2 := Lib.hid (HB2.out.trans (hb4.mono HB2.out.size))
      have hs43 := hb4.size
      clear ho4 hb4 d0' d1' d2' hx h hc4
      cases hs4 : storeB l4
      · go_wp2_with fail
        refine (specValidStoreIn _ _ _ _ _ _ hi4).mono ?_
        rintro e w5 ⟨rfl, hb5⟩
        replace HB2 := Lib.hid (HB2.out.trans (hb5.mono HB2.out.size))
        clear hb5
        go_wp2_with fail
        go_ret2
        exact putPost_nil HB2.out
      · have hl16 := storeB_len hs4
        have HS4 := Lib.hid hs4
        go_wp2_with fail
        refine (specValidStoreIn _ _ _ _ _ _ hi4).mono ?_
        rintro e w5 ⟨rfl, hb5⟩
        replace HB2 := Lib.hid (HB2.out.trans (hb5.mono HB2.out.size))
        have HO5 := Lib.hid ((HO4.out.below hb5).wide hb5.size)
        clear hb5
        go_wp2_with fail
        go_ret2
        exact ⟨a4, cap4, l4, true, rfl, HO5.out.low (by omega), ⟨hl16, HS4.out⟩, HB2.out⟩

/-- a vector's length -/
def LenI (x : It) : Prop := 1 ≤ x.pos.length ∧ x.pos.length ≤ 5
def LenB (ll : List It) : Prop := ∀ x ∈ ll, LenI x
theorem lenB_store {ll : List It} (h : storeB ll = true) : LenB ll := fun x hx => by
  obtain ⟨j, hj, e⟩ := List.getElem_of_mem hx
  have h1 := vecB_len (storeB_vec h hj)
  rw [List.getD_eq_getElem?_getD, List.getElem?_eq_getElem hj, Option.getD_some, e] at h1
  unfold LenI
  omega
/-- a drawn item -/
def GotItem (w : World) (B c : Nat) (e : Ending) (w' : World) : Prop :=
  ∃ (x : It) (a : Option Addr) (cap : Nat), e = .returned (.agg #[.int .i64 x.key, .slice a x.pos.length cap, .int .i64 x.tags]) ∧ VecV w' w.heap.size w'.heap.size x a cap ∧ LenI x ∧ Reader w' B c ∧ Upd B (B + 1) w w'

set_option maxHeartbeats 1000000 in
theorem someItem_any (w : World) (B c : Nat) (hr : Reader w B c) (hc : c ≤ 1099511620000) :
    Calls Try.prog 86 #[.pointer (some ⟨B, 0, none⟩)] w (GotItem w B (c + 14)) := by
  have hB := hr.lt
  have hz := heap_alloc_new w (.cells #[.int .i64 0, .slice none 0 0, .int .i64 0] 39)
  have HZ := Lib.hid hz
  clear hz
  go_enter Try.func86, Try.ntmps86
  go_wp2_with fail
  refine (pick_any _ _ _ _ (hr.keep ((below_alloc w _).mono hB)) (by omega) (by omega) (by omega)).mono ?_
  rintro e w1 ⟨p, rfl, p0, p1, hr1, hu1, hs1⟩
  have hp : 0 ≤ p ∧ p ≤ 30 := by omega
  have HU1 := Lib.hid hu1
  have hs1' := hu1.size
  rw [World.size_alloc] at hs1'
  clear hu1 hs1 p0 p1
  go_wp2_with fail
  refine (someVector_any _ _ _ hr1 (by omega)).mono ?_
  rintro e w2 ⟨a, cap, l, rfl, hi, hq, hr2, hu2⟩
  have HI := Lib.hid hi
  have HU2 := Lib.hid hu2
  have hs2 := hu2.size
  have HQL := Lib.hid hq
  clear hi hq hu2
  go_wp2_with fail
  refine (pick_any _ _ _ _ hr2 (by omega) (by omega) (by omega)).mono ?_
  rintro e w3 ⟨q, rfl, q0, q1, hr3, hu3, hs3⟩
  have hq : 0 ≤ q ∧ q ≤ 16 := by omega
  have HU3 := Lib.hid hu3
  have hs3' := hu3.size
  clear hu3 hs3 q0 q1
  have hz3 : w3.heap[w.heap.size]? = some (.cells #[.int .i64 0, .slice none 0 0, .int .i64 0] 39 (0, 0)) := by
    rw [HU3.out.block _ (by omega) (by omega), HU2.out.block _ (by omega) (by omega), HU1.out.block _ (by simp) (by omega)]
    exact HZ.out
  have z0 := cells3_0 hz3
  have z1 := cells3_1 hz3
  have z2 := cells3_2 hz3
  have zf := cells3_f hz3
  have HZ3 := Lib.hid hz3
  clear hz3
  go_wp2_with fail
  obtain ⟨s0, s1, s2⟩ := store3c HZ3.out (.int .i64 (1 + p)) (.slice a l.length cap) (.int .i64 q)
  (try simp only [Exit.inBlock, Exit.then])
  refine bodyPost_ret (v := .agg #[.int .i64 (1 + p), .slice a l.length cap, .int .i64 q]) (by simp [results, Try.results86, go_sem, s0, s1, s2]) rfl ?_
  have u := upd_store3 w3 w.heap.size (.int .i64 (1 + p)) (.slice a l.length cap) (.int .i64 q)
  have hsu := u.size
  obtain ⟨i1, i2, i3⟩ := HI.out
  have v3 : VecV w3 w1.heap.size w2.heap.size ⟨1 + p, l, q⟩ a cap := VecV.upd (w := w2) ⟨i1, i2, i3, by unfold i64B; dsimp only; omega, by unfold i64B; dsimp only; omega⟩ HU3.out (by omega)
  have hu := ((((Upd.alloc w (.cells #[.int .i64 0, .slice none 0 0, .int .i64 0] 39)).trans HU1.out).trans HU2.out).trans HU3.out)
  refine ⟨⟨1 + p, l, q⟩, a, cap, rfl, (v3.upd u (by omega)).wide (by omega) (by omega), ⟨by have := HQL.out; show 1 ≤ l.length; omega, by have := HQL.out; show l.length ≤ 5; omega⟩, (hr3.upd u (by omega)).mono (by omega), ?_⟩
  exact ⟨u.os.trans hu.os, u.tape.trans hu.tape, u.output.trans hu.output, Nat.le_trans hu.size hsu, fun k hk hd => by rw [u.block k (by omega) (by omega)]; exact hu.block k hk hd⟩
set_option maxHeartbeats 2000000 in
theorem anyItem_any (w : World) (B c : Nat) (hr : Reader w B c) (hc : c ≤ 1099511610000) :
    Calls Try.prog 69 #[.pointer (some ⟨B, 0, none⟩)] w (GotItem w B (c + 40)) := by
  have hB := hr.lt
  have hz := heap_alloc_new w (.cells #[.int .i64 0, .slice none 0 0, .int .i64 0] 39)
  have HZ := Lib.hid hz
  clear hz
  have hfin : ∀ (w6 : World) (x : It) (a : Option Addr) (cap : Nat), LenI x → Reader w6 B (c + 40) → Upd B (B + 1) w w6 → VecV w6 (w.heap.size + 1) w6.heap.size x a cap → w.heap.size < w6.heap.size →
      GotItem w B (c + 40) (.returned (.agg #[.int .i64 x.key, .slice a x.pos.length cap, .int .i64 x.tags])) (((w6.setCell ⟨w.heap.size, 0, none⟩ (.int .i64 x.key)).setCell ⟨w.heap.size, 1, none⟩ (.slice a x.pos.length cap)).setCell ⟨w.heap.size, 2, none⟩ (.int .i64 x.tags)) := by
    intro w6 x a cap hlx hr6 hu6 hv6 hs6
    have u := upd_store3 w6 w.heap.size (.int .i64 x.key) (.slice a x.pos.length cap) (.int .i64 x.tags)
    have hsu := u.size
    refine ⟨x, a, cap, rfl, (hv6.upd u (by omega)).wide (by omega) hsu, hlx, hr6.upd u (by omega), ?_⟩
    exact ⟨u.os.trans hu6.os, u.tape.trans hu6.tape, u.output.trans hu6.output, Nat.le_trans hu6.size hsu, fun k hk hd => by rw [u.block k (by omega) (by omega)]; exact hu6.block k hk hd⟩
  have HF := Lib.hid hfin
  clear hfin
  go_enter Try.func69, Try.ntmps69
  go_wp2_with fail
  refine (someItem_any _ B c (hr.keep ((below_alloc w _).mono hB)) (by omega)).mono ?_
  rintro e w1 ⟨x, a, cap, rfl, hv1, hlx, hr1, hu1⟩
  have hs1 := hu1.size
  have HLX := Lib.hid hlx
  clear hlx
  rw [World.size_alloc] at hs1
  have HV1 := Lib.hid hv1
  have HU1 := Lib.hid hu1
  have hz1 : w1.heap[w.heap.size]? = some (.cells #[.int .i64 0, .slice none 0 0, .int .i64 0] 39 (0, 0)) := by
    rw [hu1.block _ (by simp) (by omega)]
    exact HZ.out
  have HZ1 := Lib.hid hz1
  clear hz1 hv1 hu1
  go_wp2_with fail
  have hzx := heap_alloc_new w1 (.cells #[.int .i64 x.key, .slice a x.pos.length cap, .int .i64 x.tags] 39)
  refine (pick_any _ _ _ _ (hr1.keep ((below_alloc w1 _).mono hr1.lt)) (by omega) (by omega) (by omega)).mono ?_
  rintro e w2 ⟨p, rfl, p0, p1, hr2, hu2, hs2⟩
  have hb1 := hr1.lt
  have hs2' := hu2.size
  rw [World.size_alloc] at hs2'
  have hx2 := (hu2.block w1.heap.size (by simp) (by omega)).trans hzx
  have HX2 := Lib.hid hx2
  have hz2 : w2.heap[w.heap.size]? = some (.cells #[.int .i64 0, .slice none 0 0, .int .i64 0] 39 (0, 0)) := by
    rw [hu2.block _ (by simp; omega) (by omega), Below.heap_alloc _ _ _ (by omega)]
    exact HZ1.out
  have HZ2 := Lib.hid hz2
  have HU2 : Hid (Upd B (B + 1) w1 w2) := Lib.hid ((Upd.alloc w1 _).trans hu2)
  have HV2 := Lib.hid (HV1.out.upd HU2.out (by rw [World.size_alloc]; omega))
  have HUW : Hid (Upd B (B + 1) w w2) := Lib.hid (((Upd.alloc w _).trans HU1.out).trans HU2.out)
  clear hzx hu2 hs2 hx2 hz2
  rw [World.size_alloc] at HV2
  have hk1 := HV1.out.2.2.2.1
  have hk2 := HV1.out.2.2.2.2
  by_cases k0 : p = 0
  · subst k0
    have x0 := cells3_0 HX2.out
    have xf := cells3_f HX2.out
    go_wp2_with fail
    refine (one_any _ B _ _ _ _ _ [0, 99, 100] (hr2.keep ((below_alloc w2 _).mono hr2.lt)) (by omega) (ints_lit w2 _ _ (fun x hx => by simp at hx; omega) (by simp)) (by simp) hr2.lt).mono ?_
    rintro e w4 ⟨y, rfl, hy, hr4, hu4, hs4⟩
    have hy' : i64B y := by simp at hy; unfold i64B; omega
    have HU4 : Hid (Upd B (B + 1) w2 w4) := Lib.hid ((Upd.alloc w2 _).trans hu4)
    clear hy hu4 hs4 x0 xf
    have X4 := (HU4.out.block w1.heap.size (by omega) (by omega)).trans HX2.out
    have Z4 := (HU4.out.block w.heap.size (by omega) (by omega)).trans HZ2.out
    have hs4 := HU4.out.size
    have HZ4 := Lib.hid Z4
    have x0 := cells3_0 X4
    have x1 := cells3_1 X4
    have x2 := cells3_2 X4
    have xf := cells3_f X4
    have z0 := cells3_0 Z4
    have z1 := cells3_1 Z4
    have z2 := cells3_2 Z4
    have zf := cells3_f Z4
    have hne : w.heap.size < w1.heap.size := by omega
    have HV4 := Lib.hid (show VecV w4 _ _ ⟨y, x.pos, x.tags⟩ a cap from ⟨(HV2.out.upd HU4.out (by omega)).1, (HV2.out.upd HU4.out (by omega)).2.1, HV2.out.2.2.1, hy', hk2⟩)
    have HR4 := Lib.hid hr4
    clear X4 Z4 hr4 hr1 hr2 hr
    go_wp2_with fail
    have u := upd_set w4 w1.heap.size 0 (.int .i64 y)
    obtain ⟨s0, s1, s2⟩ := store3c ((u.block w.heap.size (by omega) (by omega)).trans HZ4.out) (.int .i64 y) (.slice a x.pos.length cap) (.int .i64 x.tags)
    have hsu := u.size
    (try simp only [Exit.inBlock, Exit.then])
    exact bodyPost_ret (v := .agg #[.int .i64 y, .slice a x.pos.length cap, .int .i64 x.tags]) (by simp [results, Try.results69, go_sem, s0, s1, s2]) rfl (HF.out _ ⟨y, x.pos, x.tags⟩ a cap HLX.out ((HR4.out.upd u (by omega)).mono (by omega)) ((HUW.out.trans HU4.out).above u (by omega)) ((HV4.out.upd u (by omega)).wide (by omega) (by omega)) (by omega))
  · by_cases k1 : p = 1
    · subst k1
      have x0 := cells3_1 HX2.out
      have xf := cells3_f HX2.out
      go_wp2_with fail
      refine (anyVector_any _ B _ hr2 (by omega)).mono ?_
      rintro e w4 ⟨a4, cap4, l4, rfl, hi4, hq4, hr4, hu4⟩
      have HI4 := Lib.hid hi4
      have HU4 := Lib.hid hu4
      have HQ4 : Hid (LenI ⟨x.key, l4, x.tags⟩) := Lib.hid hq4
      clear hi4 hq4 hu4 x0 xf
      have X4 := (HU4.out.block w1.heap.size (by omega) (by omega)).trans HX2.out
      have Z4 := (HU4.out.block w.heap.size (by omega) (by omega)).trans HZ2.out
      have hs4 := HU4.out.size
      have HZ4 := Lib.hid Z4
      have x0 := cells3_0 X4
      have x1 := cells3_1 X4
      have x2 := cells3_2 X4
      have xf := cells3_f X4
      have z0 := cells3_0 Z4
      have z1 := cells3_1 Z4
      have z2 := cells3_2 Z4
      have zf := cells3_f Z4
      have hne : w.heap.size < w1.heap.size := by omega
      have HV4 := Lib.hid (show VecV w4 _ _ ⟨x.key, l4, x.tags⟩ a4 cap4 from ⟨HI4.out.1, HI4.out.2.1, HI4.out.2.2, hk1, hk2⟩)
      have HR4 := Lib.hid hr4
      clear X4 Z4 hr4 hr1 hr2 hr
      go_wp2_with fail
      have u := upd_set w4 w1.heap.size 1 (.slice a4 l4.length cap4)
      obtain ⟨s0, s1, s2⟩ := store3c ((u.block w.heap.size (by omega) (by omega)).trans HZ4.out) (.int .i64 x.key) (.slice a4 l4.length cap4) (.int .i64 x.tags)
      have hsu := u.size
      (try simp only [Exit.inBlock, Exit.then])
      exact bodyPost_ret (v := .agg #[.int .i64 x.key, .slice a4 l4.length cap4, .int .i64 x.tags]) (by simp [results, Try.results69, go_sem, s0, s1, s2]) rfl (HF.out _ ⟨x.key, l4, x.tags⟩ a4 cap4 HQ4.out ((HR4.out.upd u (by omega)).mono (by omega)) ((HUW.out.trans HU4.out).above u (by omega)) ((HV4.out.upd u (by omega)).wide (by omega) (by omega)) (by omega))
    · by_cases k2 : p = 2
      · subst k2
        have x0 := cells3_2 HX2.out
        have xf := cells3_f HX2.out
        go_wp2_with fail
        refine (one_any _ B _ _ _ _ _ [-1, 16] (hr2.keep ((below_alloc w2 _).mono hr2.lt)) (by omega) (ints_lit w2 _ _ (fun x hx => by simp at hx; omega) (by simp)) (by simp) hr2.lt).mono ?_
        rintro e w4 ⟨y, rfl, hy, hr4, hu4, hs4⟩
        have hy' : i64B y := by simp at hy; unfold i64B; omega
        have HU4 : Hid (Upd B (B + 1) w2 w4) := Lib.hid ((Upd.alloc w2 _).trans hu4)
        clear hy hu4 hs4 x0 xf
        have X4 := (HU4.out.block w1.heap.size (by omega) (by omega)).trans HX2.out
        have Z4 := (HU4.out.block w.heap.size (by omega) (by omega)).trans HZ2.out
        have hs4 := HU4.out.size
        have HZ4 := Lib.hid Z4
        have x0 := cells3_0 X4
        have x1 := cells3_1 X4
        have x2 := cells3_2 X4
        have xf := cells3_f X4
        have z0 := cells3_0 Z4
        have z1 := cells3_1 Z4
        have z2 := cells3_2 Z4
        have zf := cells3_f Z4
        have hne : w.heap.size < w1.heap.size := by omega
        have HV4 := Lib.hid (show VecV w4 _ _ ⟨x.key, x.pos, y⟩ a cap from ⟨(HV2.out.upd HU4.out (by omega)).1, (HV2.out.upd HU4.out (by omega)).2.1, HV2.out.2.2.1, hk1, hy'⟩)
        have HR4 := Lib.hid hr4
        clear X4 Z4 hr4 hr1 hr2 hr
        go_wp2_with fail
        have u := upd_set w4 w1.heap.size 2 (.int .i64 y)
        obtain ⟨s0, s1, s2⟩ := store3c ((u.block w.heap.size (by omega) (by omega)).trans HZ4.out) (.int .i64 x.key) (.slice a x.pos.length cap) (.int .i64 y)
        have hsu := u.size
        (try simp only [Exit.inBlock, Exit.then])
        exact bodyPost_ret (v := .agg #[.int .i64 x.key, .slice a x.pos.length cap, .int .i64 y]) (by simp [results, Try.results69, go_sem, s0, s1, s2]) rfl (HF.out _ ⟨x.key, x.pos, y⟩ a cap HLX.out ((HR4.out.upd u (by omega)).mono (by omega)) ((HUW.out.trans HU4.out).above u (by omega)) ((HV4.out.upd u (by omega)).wide (by omega) (by omega)) (by omega))
      · have x0 := cells3_0 HX2.out
        have x1 := cells3_1 HX2.out
        have x2 := cells3_2 HX2.out
        have z0 := cells3_0 HZ2.out
        have z1 := cells3_1 HZ2.out
        have z2 := cells3_2 HZ2.out
        have zf := cells3_f HZ2.out
        go_wp2_with fail
        obtain ⟨s0, s1, s2⟩ := store3c HZ2.out (.int .i64 x.key) (.slice a x.pos.length cap) (.int .i64 x.tags)
        (try simp only [Exit.inBlock, Exit.then])
        exact bodyPost_ret (v := .agg #[.int .i64 x.key, .slice a x.pos.length cap, .int .i64 x.tags]) (by simp [results, Try.results69, go_sem, s0, s1, s2]) rfl (HF.out w2 x a cap HLX.out (hr2.mono (by omega)) HUW.out (HV2.out.wide (Nat.le_refl _) (by omega)) (by omega))
/-- a drawn store -/
def GotStore (w : World) (B c n : Nat) (e : Ending) (w' : World) : Prop :=
  ∃ (a : Option Addr) (cap : Nat) (ll : List It), e = .returned (.slice a ll.length cap) ∧ OwnItems w' w.heap.size w'.heap.size (.slice a ll.length cap) ll ∧ ll.length ≤ n ∧ Reader w' B c ∧ Upd B (B + 1) w w'
/-- .. with what is known of it -/
def GotStoreQ (Q : List It → Prop) (w : World) (B c n : Nat) (e : Ending) (w' : World) : Prop :=
  ∃ (a : Option Addr) (cap : Nat) (ll : List It), e = .returned (.slice a ll.length cap) ∧ OwnItems w' w.heap.size w'.heap.size (.slice a ll.length cap) ll ∧ ll.length ≤ n ∧ Q ll ∧ Reader w' B c ∧ Upd B (B + 1) w w'
theorem VecV.itV {w : World} {lo hi : Nat} {x : It} {a : Option Addr} {c : Nat} (h : VecV w lo hi x a c) : ItV w lo hi x a c := ⟨h.1, h.2.2⟩
theorem Upd.then_below {lo hi : Nat} {a b c : World} (h : Upd lo hi a b) (k : Below b.heap.size b c) : Upd lo hi a c := h.trans (Upd.of_below k)

set_option maxHeartbeats 1000000 in
theorem someStore_any (w : World) (B c : Nat) (hr : Reader w B c) (hc : c ≤ 1099511610000) :
    Calls Try.prog 68 #[.pointer (some ⟨B, 0, none⟩)] w (GotStoreQ (fun ll => storeB ll = true) w B (c + 300) 16) := by
  have hB := hr.lt
  have HE := Lib.hid (owns_empty w w.heap.size 39 3 (Nat.le_refl _))
  go_enter Try.func68, Try.ntmps68
  go_wp2_with fail
  have HRa : Reader (w.alloc (.cells #[] 39)) B c := hr.keep ((below_alloc w _).mono hB)
  have HUa : Upd B (B + 1) w (w.alloc (.cells #[] 39)) := Upd.alloc w _
  have HOa := HE.out
  have hsa : w.heap.size + 1 = (w.alloc (.cells #[] 39)).heap.size := by simp
  obtain ⟨wa, hwa⟩ : ∃ wa, w.alloc (.cells #[] 39) = wa := ⟨_, rfl⟩
  rw [hwa] at HRa HUa HOa hsa ⊢
  rw [hsa]
  have hsb : w.heap.size < wa.heap.size := by omega
  clear hsa
  have HLa := Lib.hid HUa
  have HOA := Lib.hid HOa
  clear hwa HUa HOa
  refine (one_any _ B c _ _ _ _ [4, 6, 8, 3, 1, 0, 20, 12] (HRa.keep ((below_alloc wa _).mono HRa.lt)) (by omega) (ints_lit wa _ _ (fun x hx => by simp at hx; omega) (by simp)) (by simp) HRa.lt).mono ?_
  rintro e w1 ⟨n, rfl, hn, hr1, hu1, hs1⟩
  have hn' : 0 ≤ n ∧ n ≤ 20 := by simp at hn; omega
  have HU2 : Hid (Upd B (B + 1) wa w1) := Lib.hid ((Upd.alloc wa _).trans hu1)
  have HU1 : Hid (Upd B (B + 1) w w1) := Lib.hid (HLa.out.trans HU2.out)
  have HO1 : Hid (OwnItems w1 w.heap.size w1.heap.size (.slice (some ⟨w.heap.size, 0, none⟩) 0 0) []) := Lib.hid ((OwnItems.upd (hi := w.heap.size) ⟨[], HOA.out, rwsI_nil _ _ _⟩ HU2.out (by omega)).wide HU1.out.size)
  have hs1' := HU1.out.size
  clear hn hu1 hs1 HE
  go_wp2_with fail
  go_loopw [3, 4] (fun v i wr => ∃ (m : Int) (ol : List It), i = .int .i64 m ∧ 0 ≤ m ∧ m ≤ 20 ∧ ol.length ≤ 16 ∧ Hid (storeB ol = true) ∧ Hid (OwnItems wr w.heap.size wr.heap.size v ol) ∧ Reader wr B (c + 1 + 14 * (20 - m.toNat)) ∧ Hid (Upd B (B + 1) w wr)) (fun _ i _ => (intOf i).toNat)
  case atStart => exact ⟨n, [], rfl, hn'.1, hn'.2, by simp, rfl, HO1.out, hr1.mono (by omega), HU1.out⟩
  case round =>
    obtain ⟨m, ol, rfl, m0, m1, hol, HST, HO, hr2, HU⟩ := hrel
    have hsr := HU.out.size
    by_cases hm : 0 < m
    · go_wp2_with fail
      refine (someItem_any _ B _ hr2 (by omega)).mono ?_
      rintro e w3 ⟨x, a, cap, rfl, hv3, -, hr3, hu3⟩
      have hs3 := hu3.size
      have HO3 := Lib.hid ((HO.out.upd hu3 (by omega)).wide hs3)
      replace HU := Lib.hid (HU.out.trans hu3)
      obtain ⟨ao, co, hvo, hio, _⟩ := items_of_owns HO3.out (by omega) (Nat.le_refl _)
      rw [hvo] at HO3 ⊢
      have HV3 := Lib.hid hv3.itV
      have HI3 := Lib.hid hio
      clear hu3 hv3 hvo hio HO
      go_wp2_with fail
      refine (PutItem_any _ _ _ _ _ _ _ _ _ ol x HI3.out HV3.out).mono ?_
      rintro e w4 ⟨a4, cap4, l4, ok, rfl, ho4, ⟨hl4, hst4⟩, hb4⟩
      have HST4 := Lib.hid hst4
      clear hst4
      have hs4 := hb4.size
      have HO4 := Lib.hid (ho4.low (show w.heap.size ≤ w3.heap.size by omega))
      have HO5 := Lib.hid ((HO3.out.below hb4).wide hs4)
      have HR4 := Lib.hid (hr3.keep (hb4.mono hr3.lt))
      replace HU := Lib.hid (HU.out.then_below hb4)
      have w1e : IntKind.i64.wrap (m - 1) = m - 1 := IntWalk.i64_in _ (by omega)
      clear ho4 hb4 HO3 HV3 HI3 hr3
      cases ok
      · go_wp2_with fail
        go_roundw
        case rel => exact ⟨m - 1, ol, rfl, by omega, by omega, hol, HST, HO5.out, HR4.out.mono (by omega), HU.out⟩
        case measure => simp [intOf]; omega
      · go_wp2_with fail
        go_roundw
        case rel => exact ⟨m - 1, l4, rfl, by omega, by omega, hl4, HST4, HO4.out, HR4.out.mono (by omega), HU.out⟩
        case measure => simp [intOf]; omega
    · go_wp2_with fail
      go_ret
      obtain ⟨vs, h1, h2⟩ := HO.out
      obtain ⟨ar, capr, rfl, _⟩ := owns_form h1
      exact ⟨ar, capr, ol, rfl, ⟨vs, h1, h2⟩, hol, HST.out, hr2.mono (by omega), HU.out⟩

set_option maxHeartbeats 1000000 in
theorem anyStore_len (w : World) (B c : Nat) (hr : Reader w B c) (hc : c ≤ 1099511600000) :
    Calls Try.prog 45 #[.pointer (some ⟨B, 0, none⟩)] w (GotStoreQ LenB w B (c + 400) 17) := by
  have hB := hr.lt
  go_enter Try.func45, Try.ntmps45
  go_wp2_with fail
  refine (someStore_any _ B c hr (by omega)).mono ?_
  rintro e w1 ⟨a, cap, ll, rfl, ho1, hl1, hq1, hr1, hu1⟩
  have HL1 := Lib.hid (lenB_store hq1)
  clear hq1
  have HO1 := Lib.hid ho1
  have HU1 := Lib.hid hu1
  have hs1 := hu1.size
  clear ho1 hu1
  go_wp2_with fail
  refine (pick_any _ _ _ _ hr1 (by omega) (by omega) (by omega)).mono ?_
  rintro e w2 ⟨p, rfl, p0, p1, hr2, hu2, hs2⟩
  have hs2' := hu2.size
  have HO2 := Lib.hid ((HO1.out.upd hu2 (by omega)).wide hs2')
  have HU2 := Lib.hid (HU1.out.trans hu2)
  clear hu2 hs2 HO1 HU1
  by_cases k0 : p = 0
  · subst k0
    go_wp2_with fail
    refine (anyItem_any _ B _ hr2 (by omega)).mono ?_
    rintro e w3 ⟨x, ax, cx, rfl, hv3, hlx, hr3, hu3⟩
    have HLX := Lib.hid hlx
    clear hlx
    have hs3 := hu3.size
    have HV3 := Lib.hid hv3
    obtain ⟨vs, hown, hrw⟩ := HO2.out
    have HW := Lib.hid (owns_upd hown hu3 (by omega))
    have HRW := Lib.hid (hrw.upd hu3 (by omega))
    have hbk := Lib.hid (owns_block hown)
    have HU3 := Lib.hid (HU2.out.trans hu3)
    have HR3 := Lib.hid hr3
    clear hv3 hu3 hown hrw hr3
    go_wp2_with (at_builtin; refine append1 rfl _ _ 24 rfl w.heap.size 39 Try.underlying24 infoItem rfl (by omega) (by omega) _ ll.length vs rfl HW.out (itCells x ax cx) rfl rfl (itCells_one _ _ _) (by omega) (by omega) ?_; intro v' w4 hown4 hg4; have HO4 := Lib.hid hown4; have HG4 := Lib.hid hg4; clear hown4 hg4)
    go_ret
    have hs4 := HG4.out.size
    have R1 := (HRW.out.wide (Nat.le_refl _) hs3).snoc (c := cx) (HV3.out.wide (by omega) (Nat.le_refl _))
    have R2 := (R1.grown HW.out (by decide) HG4.out).wide (Nat.le_refl _) hs4
    have q1 : w4.ownsRow w.heap.size 39 3 v' (ll ++ [x]).length (vs ++ itCells x ax cx) := by simpa using HO4.out
    obtain ⟨ar, capr, rfl, _⟩ := owns_form q1
    exact ⟨ar, capr, ll ++ [x], rfl, ⟨_, q1, R2⟩, by simp; omega, (fun y hy => by
      rcases List.mem_append.1 hy with hy | hy
      · exact HL1.out y hy
      · rw [List.mem_singleton.1 hy]; exact HLX.out), (HR3.out.grown HG4.out (fun j hj => by have := hbk.out j hj; omega)).mono (by omega), HU3.out.grow HG4.out hbk.out⟩
  · by_cases k1 : p = 1
    · subst k1
      by_cases h0 : 0 < ll.length
      · have h0' : (0 : Int) < ll.length := by omega
        obtain ⟨vs, h1, h2⟩ := HO2.out
        obtain ⟨g, gcap, hv, hg, hgc, hgm⟩ := owns_shape h1 (by omega)
        simp only [Value.slice.injEq] at hv
        obtain ⟨rfl, _, rfl⟩ := hv
        have HW := Lib.hid h1
        have HRW := Lib.hid h2
        clear h1 h2
        go_wp2_with fail
        refine (pick_any _ _ _ _ hr2 (by omega) (by omega) (by omega)).mono ?_
        rintro e w3 ⟨m, rfl, m0, m1, hr3, hu3, hs3⟩
        have hk : ∃ k : Nat, m = (k : Int) ∧ k < ll.length := ⟨m.toNat, by omega, by omega⟩
        obtain ⟨k, rfl, hk⟩ := hk
        have HU3 := Lib.hid hu3
        have hs3' := hu3.size
        clear hu3 hs3 m0 m1
        go_wp2_with fail
        refine (anyVector_any _ _ _ hr3 (by omega)).mono ?_
        rintro e w4 ⟨a4, cap4, l4, rfl, hi4, hq4, hr4, hu4⟩
        have HI4 := Lib.hid hi4
        have HU4 := Lib.hid (HU3.out.trans hu4)
        have hs4 := hu4.size
        have HW4 := Lib.hid (owns_upd HW.out HU4.out (by omega))
        have HRW4 := Lib.hid (HRW.out.upd HU4.out (by omega))
        have hf := HW4.out.frozenAt (k * 3 + 1)
        obtain ⟨ak, ck, _, hvk, _⟩ := HRW4.out.2 k hk
        have hcell := (HW4.out.cellAt (k * 3 + 1) (by have := HRW4.out.1; omega)).trans hvk
        have HR4 := Lib.hid hr4
        have HQ4 := Lib.hid hq4
        clear hvk hi4 hu4 hq4 HU3 hr4
        go_wp2_with fail
        go_ret
        have HO5 := HW4.out.stored (k * 3 + 1) (.slice a4 l4.length cap4)
        have hblk : ∀ j, some g = some j → w.heap.size ≤ j := fun j hj => by cases hj; exact hg
        have R5 := ((HRW4.out.wide (Nat.le_refl _) (show w2.heap.size ≤ w4.heap.size by omega)).setVec hk (HI4.out.1.wide (by omega) (Nat.le_refl _)) HI4.out.2.1 HI4.out.2.2).grown HW4.out (by decide) HO5.2
        exact ⟨_, cap, ll.set k ⟨(ll.getD k It.no).key, l4, (ll.getD k It.no).tags⟩, ret_slice (by simp), ⟨_, by rw [List.length_set]; exact HO5.1, R5.wide (Nat.le_refl _) HO5.2.size⟩, by simp; omega, (fun y hy => by
          rcases List.mem_or_eq_of_mem_set hy with hy | rfl
          · exact HL1.out y hy
          · exact HQ4.out), (HR4.out.grown HO5.2 (fun j hj => by have := hblk j hj; omega)).mono (by omega), (HU2.out.trans HU4.out).grow HO5.2 hblk⟩
      · go_wp2_with fail
        go_ret
        exact ⟨a, cap, ll, rfl, HO2.out, by omega, HL1.out, hr2.mono (by omega), HU2.out⟩
    · go_wp2_with fail
      go_ret
      exact ⟨a, cap, ll, rfl, HO2.out, by omega, HL1.out, hr2.mono (by omega), HU2.out⟩
theorem anyStore_any (w : World) (B c : Nat) (hr : Reader w B c) (hc : c ≤ 1099511600000) :
    Calls Try.prog 45 #[.pointer (some ⟨B, 0, none⟩)] w (GotStore w B (c + 400) 17) :=
  (anyStore_len w B c hr hc).mono fun _ _ ⟨a, cap, ll, h1, h2, h3, _, h4, h5⟩ => ⟨a, cap, ll, h1, h2, h3, h4, h5⟩
end Go.Proofs.Ytlammenejgagdaa
