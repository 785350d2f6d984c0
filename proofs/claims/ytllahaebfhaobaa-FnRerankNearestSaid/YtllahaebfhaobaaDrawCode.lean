/-
  What the Draw functions of searches of codes hand over, whatever the code.
-/
import Derived.Test.YtllahaebfhaobaaDrawBookTops
import Derived.Test.YtllahaebfhaobaaDrawStore
namespace Go.Proofs.Ytllahaebfhaobaa
open Go.RowKit
set_option linter.unusedVariables false

def SmallPost (w : World) (B c : Nat) (e : Ending) (w' : World) : Prop :=
  ∃ x : Int, e = .returned (.int .i64 x) ∧ (0 ≤ x ∧ x ≤ 20) ∧ Reader w' B c ∧ Upd B (B + 1) w w'
set_option maxHeartbeats 400000 in
theorem someK_any (w : World) (B c : Nat) (hr : Reader w B c) (hc : c ≤ 1099511600000) :
    Calls Try.prog 37 #[.pointer (some ⟨B, 0, none⟩)] w (SmallPost w B (c + 1)) := by
  have hB := hr.lt
  go_enter Try.func37, Try.ntmps37
  go_wp2_with fail
  refine (one_any _ B c _ _ _ _ [1, 2, 3, 5, 16, 4, 0, 17] (hr.keep ((Below.refl _ _).alloc hB _)) (by omega) (ints_lit w _ _ (fun x hx => by simp at hx; omega) (by simp)) (by simp) hB).mono ?_
  rintro e w1 ⟨n, rfl, hn, hr1, hu1, hs1⟩
  have hn' : 0 ≤ n ∧ n ≤ 20 := by simp at hn; omega
  have HU1 := Lib.hid ((Upd.alloc w _).trans hu1)
  have HR1 := Lib.hid hr1
  clear hn hs1 hu1 hr1
  go_wp2_with fail
  go_ret
  exact ⟨n, rfl, hn', HR1.out, HU1.out⟩
def DrawnCode (w : World) (e : Ending) (w' : World) : Prop :=
  ∃ (a b q p : Option Addr) (cap cap' capq capp : Nat) (L R : List (List Int)) (ll : List It) (m : List Int) (k : Int), e = .returned (.tuple #[.agg #[.slice a L.length cap, .slice b R.length cap'], .slice q ll.length capq, .slice p m.length capp, .int .i64 k]) ∧
    (Sides w' 0 w'.heap.size a b L R ∧ Cap L.length cap ∧ Cap R.length cap') ∧ (Items w' 0 w'.heap.size q ll ∧ Cap ll.length capq) ∧ (Ints w' 0 w'.heap.size p m ∧ Cap m.length capp) ∧ (ll.length ≤ 17 ∧ m.length ≤ 5) ∧ (0 ≤ k ∧ k ≤ 20) ∧ Below w.heap.size w w'
def DrawnRank (w : World) (e : Ending) (w' : World) : Prop :=
  ∃ (a b q p : Option Addr) (cap cap' capq capp : Nat) (L R : List (List Int)) (ll : List It) (m : List Int) (n k : Int), e = .returned (.tuple #[.agg #[.slice a L.length cap, .slice b R.length cap'], .slice q ll.length capq, .slice p m.length capp, .int .i64 n, .int .i64 k]) ∧
    (Sides w' 0 w'.heap.size a b L R ∧ Cap L.length cap ∧ Cap R.length cap') ∧ (Items w' 0 w'.heap.size q ll ∧ Cap ll.length capq) ∧ (Ints w' 0 w'.heap.size p m ∧ Cap m.length capp) ∧ (ll.length ≤ 17 ∧ m.length ≤ 5) ∧ ((0 ≤ n ∧ n ≤ 20) ∧ 0 ≤ k ∧ k ≤ 20) ∧ Below w.heap.size w w'
set_option maxHeartbeats 1000000 in
theorem DrawCodeNearest_any (w : World) (a : Option Addr) (n cap : Nat) (f : Nat → Int) (h : Bytes w a n cap f) :
    Calls Try.prog 7 #[.slice a n cap] w (DrawnCode w) := by
  have hA : Below w.heap.size w (w.alloc (.cells #[.slice none 0 0, .slice none 0 0] 25)) := (Below.refl _ _).alloc (Nat.le_refl _) _
  have H := Lib.hid (bytes_below h hA)
  have HA := Lib.hid hA
  clear h hA
  go_enter Try.func7, Try.ntmps7
  go_wp2_with fail
  refine (newReader_any _ _ _ _ f H.out).mono ?_
  rintro e w1 ⟨rfl, hr, hb, hs⟩
  rw [World.size_alloc] at hr hb
  have HB := Lib.hid hb
  have hbs := hb.size
  rw [World.size_alloc] at hbs
  have hrl1 := hr.lt
  clear hs hb
  go_wp2_with fail
  refine (anyBook_any _ _ _ hr (by omega)).mono ?_
  rintro e w2 ⟨a2, b2, cap2, cap2', L, R, rfl, hl, hr2, hu⟩
  have HL := Lib.hid hl
  have HU := Lib.hid hu
  have hs2 := hu.size
  have HZ : Hid (w2.heap[w.heap.size]? = some (.cells #[.slice none 0 0, .slice none 0 0] 25 (0, 0))) := by
    show _ = _
    rw [hu.block _ (by omega) (by simp), HB.out.block _ (by simp)]
    exact heap_alloc_new w _
  have hrl := hr2.lt
  obtain ⟨W2, hW2⟩ : ∃ W2, w2.alloc (.cells #[.slice a2 L.length cap2, .slice b2 R.length cap2'] 25) = W2 := ⟨_, rfl⟩
  have hsz2 : W2.heap.size = w2.heap.size + 1 := by rw [← hW2]; simp
  have HW2 : Hid (Below w2.heap.size w2 W2) := Lib.hid (by rw [← hW2]; exact below_alloc _ _)
  have HR2 := Lib.hid (hr2.keep (HW2.out.mono hrl))
  have HT : Hid (∀ w3, Upd (w.heap.size + 1) (w.heap.size + 1 + 1) W2 w3 → w3.heap[w2.heap.size]? = some (.cells #[.slice a2 L.length cap2, .slice b2 R.length cap2'] 25 (0, 0)) ∧ w3.heap[w.heap.size]? = some (.cells #[.slice none 0 0, .slice none 0 0] 25 (0, 0))) := by
    show ∀ w3, _ → _
    intro w3 u
    refine ⟨(u.block _ (by omega) (by omega)).trans (by rw [← hW2]; exact heap_alloc_new w2 _), (u.block _ (by omega) (by omega)).trans ((HW2.out.block _ (by omega)).trans HZ.out)⟩
  clear hl hu hr2
  go_wp2_with fail
  clear hW2
  refine (anyStore_any _ _ _ HR2.out (by omega)).mono ?_
  rintro e w3 ⟨a3, cap3, ll, rfl, ho, hq, hr3, hu3⟩
  obtain ⟨a', c', hv, hi, hc⟩ := items_of_owns ho (by omega) (Nat.le_refl _)
  simp only [Value.slice.injEq] at hv
  obtain ⟨rfl, _, rfl⟩ := hv
  have HI := Lib.hid (And.intro hi hc)
  have HQ3 := Lib.hid (show ll.length ≤ 17 from hq)
  have HU3 := Lib.hid hu3
  have hs3 := hu3.size
  clear hi hu3 ho hc hq
  go_wp2_with fail
  refine (anyVector_any _ _ _ hr3 (by omega)).mono ?_
  rintro e w4 ⟨a4, cap4, m, rfl, hi4, hq4, hr4, hu4⟩
  have HM := Lib.hid hi4
  have HQ4 := Lib.hid (show 1 ≤ m.length ∧ m.length ≤ 5 from hq4)
  have HU4 := Lib.hid (HU3.out.trans hu4)
  have HUV := Lib.hid hu4
  have HR4 := Lib.hid hr4
  have hs4 := hu4.size
  clear hi4 hq4 hu4 hr3 hr4
  have HRP := Lib.hid (HR4.out.upd (Upd.drew1 (lo := 0) (hi := 0) _) (by omega))
  have HTN := Lib.hid fun w5 (u : Upd (w.heap.size + 1) (w.heap.size + 1 + 1) w4.drew w5) => HT.out w5 (HU4.out.trans ((Upd.drew1 _).trans u))
  have HT0 := Lib.hid (HTN.out _ (Upd.refl _ _ _))
  have t0 := cells2_0 HT0.out.1
  have t1 := cells2_1 HT0.out.1
  go_upto_region 5 with fail
  go_region_with (go_at_call 37; refine (someK_any _ _ _ HRP.out (by omega)).mono ?_; rintro e w5 ⟨x5, rfl, hx5, hr5, hu5⟩; have HX5 := Lib.hid hx5; have hs5 := hu5.size; have q := HTN.out w5 hu5; have s0 := cells2_0 q.1; have s1 := cells2_1 q.1; have z0 := cells2_0 q.2; have z1 := cells2_1 q.2; have zf := cells2_f q.2; have HQ := Lib.hid q; have HU5 := Lib.hid hu5; clear q hu5 hr5 hx5)
  all_goals
    go_wp2_with fail
    obtain ⟨c0, c1⟩ := store2 HQ.out.2 (.slice a2 L.length cap2) (.slice b2 R.length cap2')
    (try simp only [Exit.inBlock, Exit.then])
    refine bodyPost_ret (v := .tuple #[.agg #[.slice a2 L.length cap2, .slice b2 R.length cap2'], .slice a3 ll.length cap3, .slice a4 m.length cap4, .int .i64 x5]) (by simp [results, Try.results7, go_sem, c0, c1]) rfl ?_
    have u5 : Upd (w.heap.size + 1) (w.heap.size + 1 + 1) w4 w5 := (Upd.drew1 _).trans HU5.out
    have u : Upd w.heap.size (w.heap.size + 1) w5 ((w5.setCell ⟨w.heap.size, 0, none⟩ (.slice a2 L.length cap2)).setCell ⟨w.heap.size, 1, none⟩ (.slice b2 R.length cap2')) := (Upd.setCell w5 ⟨w.heap.size, 0, none⟩ _ (Nat.le_refl _) (Nat.lt_succ_self _)).trans (Upd.setCell _ ⟨w.heap.size, 1, none⟩ _ (Nat.le_refl _) (Nat.lt_succ_self _))
    have hs6 := u.size
    have hs7 := u5.size
    have hw2 := HW2.out.size
    have hb1 := HB.out
    have hu1 := HU.out
    have uall : Upd (w.heap.size + 1) (w.heap.size + 1 + 1) W2 w5 := HU4.out.trans u5
    have hs8 := uall.size
    refine ⟨a2, b2, a3, a4, cap2, cap2', cap3, cap4, L, R, ll, m, x5, rfl, ⟨(((HL.out.1.below HW2.out).upd uall (by omega)).upd u (by omega)).wide (Nat.zero_le _) (by omega), HL.out.2⟩,
      ⟨((HI.out.1.upd (HUV.out.trans u5) (by omega)).upd u (by omega)).wide (Nat.zero_le _) (by omega), HI.out.2⟩, ⟨((HM.out.1.upd u5 (by omega)).upd u (by omega)).wide (Nat.zero_le _) (by omega), HM.out.2.2⟩, ⟨HQ3.out, HQ4.out.2⟩, HX5.out, ?_⟩
    exact HA.out.trans ((hb1.mono (by simp)).trans ((hu1.low (by simp) (by omega)).trans ((HW2.out.mono (by omega)).trans ((uall.low (by omega) (by omega)).trans (u.low (Nat.le_refl _) (by omega))))))
set_option maxHeartbeats 1000000 in
theorem DrawRerankNearest_any (w : World) (a : Option Addr) (n cap : Nat) (f : Nat → Int) (h : Bytes w a n cap f) :
    Calls Try.prog 28 #[.slice a n cap] w (DrawnRank w) := by
  have hA : Below w.heap.size w (w.alloc (.cells #[.slice none 0 0, .slice none 0 0] 25)) := (Below.refl _ _).alloc (Nat.le_refl _) _
  have H := Lib.hid (bytes_below h hA)
  have HA := Lib.hid hA
  clear h hA
  go_enter Try.func28, Try.ntmps28
  go_wp2_with fail
  refine (newReader_any _ _ _ _ f H.out).mono ?_
  rintro e w1 ⟨rfl, hr, hb, hs⟩
  rw [World.size_alloc] at hr hb
  have HB := Lib.hid hb
  have hbs := hb.size
  rw [World.size_alloc] at hbs
  have hrl1 := hr.lt
  clear hs hb
  go_wp2_with fail
  refine (anyBook_any _ _ _ hr (by omega)).mono ?_
  rintro e w2 ⟨a2, b2, cap2, cap2', L, R, rfl, hl, hr2, hu⟩
  have HL := Lib.hid hl
  have HU := Lib.hid hu
  have hs2 := hu.size
  have HZ : Hid (w2.heap[w.heap.size]? = some (.cells #[.slice none 0 0, .slice none 0 0] 25 (0, 0))) := by
    show _ = _
    rw [hu.block _ (by omega) (by simp), HB.out.block _ (by simp)]
    exact heap_alloc_new w _
  have hrl := hr2.lt
  obtain ⟨W2, hW2⟩ : ∃ W2, w2.alloc (.cells #[.slice a2 L.length cap2, .slice b2 R.length cap2'] 25) = W2 := ⟨_, rfl⟩
  have hsz2 : W2.heap.size = w2.heap.size + 1 := by rw [← hW2]; simp
  have HW2 : Hid (Below w2.heap.size w2 W2) := Lib.hid (by rw [← hW2]; exact below_alloc _ _)
  have HR2 := Lib.hid (hr2.keep (HW2.out.mono hrl))
  have HT : Hid (∀ w3, Upd (w.heap.size + 1) (w.heap.size + 1 + 1) W2 w3 → w3.heap[w2.heap.size]? = some (.cells #[.slice a2 L.length cap2, .slice b2 R.length cap2'] 25 (0, 0)) ∧ w3.heap[w.heap.size]? = some (.cells #[.slice none 0 0, .slice none 0 0] 25 (0, 0))) := by
    show ∀ w3, _ → _
    intro w3 u
    refine ⟨(u.block _ (by omega) (by omega)).trans (by rw [← hW2]; exact heap_alloc_new w2 _), (u.block _ (by omega) (by omega)).trans ((HW2.out.block _ (by omega)).trans HZ.out)⟩
  clear hl hu hr2
  go_wp2_with fail
  clear hW2
  refine (anyStore_any _ _ _ HR2.out (by omega)).mono ?_
  rintro e w3 ⟨a3, cap3, ll, rfl, ho, hq, hr3, hu3⟩
  obtain ⟨a', c', hv, hi, hc⟩ := items_of_owns ho (by omega) (Nat.le_refl _)
  simp only [Value.slice.injEq] at hv
  obtain ⟨rfl, _, rfl⟩ := hv
  have HI := Lib.hid (And.intro hi hc)
  have HQ3 := Lib.hid (show ll.length ≤ 17 from hq)
  have HU3 := Lib.hid hu3
  have hs3 := hu3.size
  clear hi hu3 ho hc hq
  go_wp2_with fail
  refine (anyVector_any _ _ _ hr3 (by omega)).mono ?_
  rintro e w4 ⟨a4, cap4, m, rfl, hi4, hq4, hr4, hu4⟩
  have HM := Lib.hid hi4
  have HQ4 := Lib.hid (show 1 ≤ m.length ∧ m.length ≤ 5 from hq4)
  have HU4 := Lib.hid (HU3.out.trans hu4)
  have HUV := Lib.hid hu4
  have HR4 := Lib.hid hr4
  have hs4 := hu4.size
  clear hi4 hq4 hu4 hr3 hr4
  go_wp2_with fail
  refine (someK_any _ _ _ HR4.out (by omega)).mono ?_
  rintro e w4b ⟨x1, rfl, hx1, hr4b, hu4b⟩
  have HX1 := Lib.hid hx1
  have HU4b := Lib.hid (HU4.out.trans hu4b)
  have HR4b := Lib.hid hr4b
  have hs4b := HU4b.out.size
  have HUVB := Lib.hid (HUV.out.trans hu4b)
  have HUB := Lib.hid hu4b
  have hs4c := HUB.out.size
  clear hx1 hr4b hu4b
  have HRP := Lib.hid (HR4b.out.upd (Upd.drew1 (lo := 0) (hi := 0) _) (by omega))
  have HTN := Lib.hid fun w5 (u : Upd (w.heap.size + 1) (w.heap.size + 1 + 1) w4b.drew w5) => HT.out w5 (HU4b.out.trans ((Upd.drew1 _).trans u))
  have HT0 := Lib.hid (HTN.out _ (Upd.refl _ _ _))
  have t0 := cells2_0 HT0.out.1
  have t1 := cells2_1 HT0.out.1
  go_upto_region 6 with fail
  go_region_with (go_at_call 37; refine (someK_any _ _ _ HRP.out (by omega)).mono ?_; rintro e w5 ⟨x5, rfl, hx5, hr5, hu5⟩; have HX5 := Lib.hid hx5; have hs5 := hu5.size; have q := HTN.out w5 hu5; have s0 := cells2_0 q.1; have s1 := cells2_1 q.1; have z0 := cells2_0 q.2; have z1 := cells2_1 q.2; have zf := cells2_f q.2; have HQ := Lib.hid q; have HU5 := Lib.hid hu5; clear q hu5 hr5 hx5)
  all_goals
    go_wp2_with fail
    obtain ⟨c0, c1⟩ := store2 HQ.out.2 (.slice a2 L.length cap2) (.slice b2 R.length cap2')
    (try simp only [Exit.inBlock, Exit.then])
    refine bodyPost_ret (v := .tuple #[.agg #[.slice a2 L.length cap2, .slice b2 R.length cap2'], .slice a3 ll.length cap3, .slice a4 m.length cap4, .int .i64 x1, .int .i64 x5]) (by simp [results, Try.results28, go_sem, c0, c1]) rfl ?_
    have u5 : Upd (w.heap.size + 1) (w.heap.size + 1 + 1) w4b w5 := (Upd.drew1 _).trans HU5.out
    have u : Upd w.heap.size (w.heap.size + 1) w5 ((w5.setCell ⟨w.heap.size, 0, none⟩ (.slice a2 L.length cap2)).setCell ⟨w.heap.size, 1, none⟩ (.slice b2 R.length cap2')) := (Upd.setCell w5 ⟨w.heap.size, 0, none⟩ _ (Nat.le_refl _) (Nat.lt_succ_self _)).trans (Upd.setCell _ ⟨w.heap.size, 1, none⟩ _ (Nat.le_refl _) (Nat.lt_succ_self _))
    have hs6 := u.size
    have hs7 := u5.size
    have hw2 := HW2.out.size
    have hb1 := HB.out
    have hu1 := HU.out
    have uall : Upd (w.heap.size + 1) (w.heap.size + 1 + 1) W2 w5 := HU4b.out.trans u5
    have hs8 := uall.size
    refine ⟨a2, b2, a3, a4, cap2, cap2', cap3, cap4, L, R, ll, m, x1, x5, rfl, ⟨(((HL.out.1.below HW2.out).upd uall (by omega)).upd u (by omega)).wide (Nat.zero_le _) (by omega), HL.out.2⟩,
      ⟨((HI.out.1.upd (HUVB.out.trans u5) (by omega)).upd u (by omega)).wide (Nat.zero_le _) (by omega), HI.out.2⟩, ⟨((HM.out.1.upd (HUB.out.trans u5) (by omega)).upd u (by omega)).wide (Nat.zero_le _) (by omega), HM.out.2.2⟩, ⟨HQ3.out, HQ4.out.2⟩, ⟨HX1.out, HX5.out⟩, ?_⟩
    exact HA.out.trans ((hb1.mono (by simp)).trans ((hu1.low (by simp) (by omega)).trans ((HW2.out.mono (by omega)).trans ((uall.low (by omega) (by omega)).trans (u.low (Nat.le_refl _) (by omega))))))
end Go.Proofs.Ytllahaebfhaobaa
