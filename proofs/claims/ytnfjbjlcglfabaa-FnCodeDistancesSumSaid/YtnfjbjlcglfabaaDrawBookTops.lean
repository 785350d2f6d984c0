/-
  What the Draw functions of books hand over, whatever the code.
-/
import Derived.Test.YtnfjbjlcglfabaaDrawBook
import Derived.Test.YtnfjbjlcglfabaaDistWalks
namespace Go.Proofs.Ytnfjbjlcglfabaa
open Go.RowKit
set_option linter.unusedVariables false

theorem bytes_below {w w' : World} {a : Option Addr} {n cap : Nat} {f : Nat → Int} (h : Bytes w a n cap f) (u : Below w.heap.size w w') : Bytes w' a n cap f :=
  ⟨h.1, h.2.1, h.2.2.1, fun hn => by
    obtain ⟨b, off, ha, hc⟩ := h.2.2.2 hn
    exact ⟨b, off, ha, fun j hj => ⟨cell_later u (hc j hj).1, (hc j hj).2⟩⟩⟩
/-- what a Draw function hands over that draws a book -/
def DrawnBook (w : World) (e : Ending) (w' : World) : Prop :=
  ∃ (a b : Option Addr) (cap cap' : Nat) (L R : List (List Int)), e = .returned (.agg #[.slice a L.length cap, .slice b R.length cap']) ∧ (Sides w' 0 w'.heap.size a b L R ∧ Cap L.length cap ∧ Cap R.length cap') ∧ Below w.heap.size w w'
set_option maxHeartbeats 400000 in
theorem DrawValidBook_any (w : World) (a : Option Addr) (n cap : Nat) (f : Nat → Int) (h : Bytes w a n cap f) :
    Calls Try.prog 15 #[.slice a n cap] w (DrawnBook w) := by
  have hA : Below w.heap.size w (w.alloc (.cells #[.slice none 0 0, .slice none 0 0] 25)) := (Below.refl _ _).alloc (Nat.le_refl _) _
  have H := Lib.hid (bytes_below h hA)
  have HA := Lib.hid hA
  clear h hA
  go_enter Try.func15, Try.ntmps15
  go_wp2_with fail
  refine (newReader_any _ _ _ _ f H.out).mono ?_
  rintro e w1 ⟨rfl, hr, hb, hs⟩
  rw [World.size_alloc] at hr hb
  have HB := Lib.hid hb
  have hbs := hb.size
  rw [World.size_alloc] at hbs
  clear hs hb
  go_wp2_with fail
  refine (anyBook_any _ _ _ hr (by omega)).mono ?_
  rintro e w2 ⟨a2, b2, cap2, cap2', L, R, rfl, hl, hr2, hu⟩
  have HL := Lib.hid hl
  have HU := Lib.hid hu
  clear hl
  have hs2 := hu.size
  have hz : w2.heap[w.heap.size]? = some (.cells #[.slice none 0 0, .slice none 0 0] 25 (0, 0)) := by
    rw [hu.block _ (by omega) (by simp), HB.out.block _ (by simp)]
    exact heap_alloc_new w _
  have z0 := cells2_0 hz
  have z1 := cells2_1 hz
  have zf := cells2_f hz
  have HZ := Lib.hid hz
  clear hz hu
  go_wp2_with fail
  obtain ⟨c0, c1⟩ := store2 HZ.out (.slice a2 L.length cap2) (.slice b2 R.length cap2')
  (try simp only [Exit.inBlock, Exit.then])
  refine bodyPost_ret (v := .agg #[.slice a2 L.length cap2, .slice b2 R.length cap2']) (by simp [results, Try.results15, go_sem, c0, c1]) rfl ?_
  have u : Upd w.heap.size (w.heap.size + 1) w2 ((w2.setCell ⟨w.heap.size, 0, none⟩ (.slice a2 L.length cap2)).setCell ⟨w.heap.size, 1, none⟩ (.slice b2 R.length cap2')) := (Upd.setCell w2 ⟨w.heap.size, 0, none⟩ _ (Nat.le_refl _) (Nat.lt_succ_self _)).trans (Upd.setCell _ ⟨w.heap.size, 1, none⟩ _ (Nat.le_refl _) (Nat.lt_succ_self _))
  have hs3 := u.size
  have hb1 := HB.out
  have hu1 := HU.out
  refine ⟨a2, b2, cap2, cap2', L, R, rfl, ⟨(HL.out.1.upd u (by omega)).wide (Nat.zero_le _) hs3, HL.out.2⟩, ?_⟩
  exact HA.out.trans ((hb1.mono (by simp)).trans ((hu1.low (by simp) (by omega)).trans (u.low (Nat.le_refl _) (by omega))))
/-- what a Draw function hands over that draws a book and a number -/
def DrawnBookInt (w : World) (e : Ending) (w' : World) : Prop :=
  ∃ (a b : Option Addr) (cap cap' : Nat) (L R : List (List Int)) (c : Int), e = .returned (.tuple #[.agg #[.slice a L.length cap, .slice b R.length cap'], .int .i64 c]) ∧ (Sides w' 0 w'.heap.size a b L R ∧ Cap L.length cap ∧ Cap R.length cap') ∧ (-1 ≤ c ∧ c ≤ 16) ∧ Below w.heap.size w w'
set_option maxHeartbeats 400000 in
theorem DrawDecodeVector_any (w : World) (a : Option Addr) (n cap : Nat) (f : Nat → Int) (h : Bytes w a n cap f) :
    Calls Try.prog 21 #[.slice a n cap] w (DrawnBookInt w) := by
  have hA : Below w.heap.size w (w.alloc (.cells #[.slice none 0 0, .slice none 0 0] 25)) := (Below.refl _ _).alloc (Nat.le_refl _) _
  have H := Lib.hid (bytes_below h hA)
  have HA := Lib.hid hA
  clear h hA
  go_enter Try.func21, Try.ntmps21
  go_wp2_with fail
  refine (newReader_any _ _ _ _ f H.out).mono ?_
  rintro e w1 ⟨rfl, hr, hb, hs⟩
  rw [World.size_alloc] at hr hb
  have HB := Lib.hid hb
  have hbs := hb.size
  rw [World.size_alloc] at hbs
  clear hs hb
  go_wp2_with fail
  refine (anyBook_any _ _ _ hr (by omega)).mono ?_
  rintro e w2 ⟨a2, b2, cap2, cap2', L, R, rfl, hl, hr2, hu⟩
  have HL := Lib.hid hl
  have HU := Lib.hid hu
  have hs2 := hu.size
  have HZ : Hid (w2.heap[w.heap.size]? = some (.cells #[.slice none 0 0, .slice none 0 0] 25 (0, 0))) := by
    show _ = _
    rw [hu.block _ (by omega) (by simp), HB.out.block _ (by simp)]
    exact heap_alloc_new w _
  clear hl hu
  go_upto_region 3 with fail
  have HRP : Reader ((w2.alloc (.cells #[.slice a2 L.length cap2, .slice b2 R.length cap2'] 25)).drew) (w.heap.size + 1) (0 + 60) := (hr2.keep ((Below.refl _ _).alloc hr2.lt _)).upd (Upd.drew1 (lo := 0) (hi := 0) _) (by omega)
  have HT : Hid (∀ w3, Upd (w.heap.size + 1) (w.heap.size + 1 + 1) ((w2.alloc (.cells #[.slice a2 L.length cap2, .slice b2 R.length cap2'] 25)).drew) w3 → w3.heap[w2.heap.size]? = some (.cells #[.slice a2 L.length cap2, .slice b2 R.length cap2'] 25 (0, 0)) ∧ w3.heap[w.heap.size]? = some (.cells #[.slice none 0 0, .slice none 0 0] 25 (0, 0))) := by
    show ∀ w3, _ → _
    intro w3 u
    have hl2 := hr2.lt
    refine ⟨(u.block _ (by show w2.heap.size < (w2.alloc _).heap.size; simp) (by omega)).trans (heap_alloc_new w2 _), (u.block _ (by show w.heap.size < (w2.alloc _).heap.size; simp; omega) (by omega)).trans ?_⟩
    exact (Below.heap_alloc _ _ _ (by omega)).trans HZ.out
  go_region_with (go_at_call 45; refine (pick_any _ _ _ 18 HRP (by omega) (by omega) (by omega)).mono ?_; rintro e w3 ⟨p, rfl, p0, p1, hr3, hu3, hs3⟩; have q := HT.out w3 hu3; have t0 := cells2_0 q.1; have t1 := cells2_1 q.1; have z0 := cells2_0 q.2; have z1 := cells2_1 q.2; have zf := cells2_f q.2; have HQ := Lib.hid q; have HU3 := Lib.hid hu3; clear q hu3 hs3)
  all_goals
    go_wp2_with fail
    obtain ⟨c0, c1⟩ := store2 HQ.out.2 (.slice a2 L.length cap2) (.slice b2 R.length cap2')
    have hw : IntKind.i64.wrap (p - 1) = p - 1 := wrap_in (by omega)
    (try simp only [Exit.inBlock, Exit.then])
    refine bodyPost_ret (v := .tuple #[.agg #[.slice a2 L.length cap2, .slice b2 R.length cap2'], .int .i64 (p - 1)]) (by simp [results, Try.results21, go_sem, c0, c1, hw]) rfl ?_
    have hu3' : Upd (w.heap.size + 1) (w.heap.size + 1 + 1) w2 w3 := ((Upd.alloc w2 _).trans (Upd.drew1 _)).trans HU3.out
    have u : Upd w.heap.size (w.heap.size + 1) w3 ((w3.setCell ⟨w.heap.size, 0, none⟩ (.slice a2 L.length cap2)).setCell ⟨w.heap.size, 1, none⟩ (.slice b2 R.length cap2')) := (Upd.setCell w3 ⟨w.heap.size, 0, none⟩ _ (Nat.le_refl _) (Nat.lt_succ_self _)).trans (Upd.setCell _ ⟨w.heap.size, 1, none⟩ _ (Nat.le_refl _) (Nat.lt_succ_self _))
    have hs3 := u.size
    have hs4 := hu3'.size
    have hr1 := hr.lt
    have hb1 := HB.out
    have hu1 := HU.out
    refine ⟨a2, b2, cap2, cap2', L, R, p - 1, rfl, ⟨((HL.out.1.upd hu3' (by omega)).upd u (by omega)).wide (Nat.zero_le _) (by omega), HL.out.2⟩, by omega, ?_⟩
    exact HA.out.trans ((hb1.mono (by simp)).trans ((hu1.low (by simp) (by omega)).trans ((hu3'.low (by omega) (by omega)).trans (u.low (Nat.le_refl _) (by omega)))))
/-- what a Draw function hands over that draws a book and a vector -/
def DrawnBookInts (w : World) (e : Ending) (w' : World) : Prop :=
  ∃ (a b : Option Addr) (cap cap' : Nat) (L R : List (List Int)) (v : Option Addr) (cv : Nat) (l : List Int), e = .returned (.tuple #[.agg #[.slice a L.length cap, .slice b R.length cap'], .slice v l.length cv]) ∧ (Sides w' w.heap.size w'.heap.size a b L R ∧ Cap L.length cap ∧ Cap R.length cap') ∧ (Ints w' w.heap.size w'.heap.size v l ∧ Cap l.length cv) ∧ (1 ≤ l.length ∧ l.length ≤ 5) ∧ Below w.heap.size w w'
set_option maxHeartbeats 400000 in
theorem DrawEncodeVector_any (w : World) (a : Option Addr) (n cap : Nat) (f : Nat → Int) (h : Bytes w a n cap f) :
    Calls Try.prog 31 #[.slice a n cap] w (DrawnBookInts w) := by
  have hA : Below w.heap.size w (w.alloc (.cells #[.slice none 0 0, .slice none 0 0] 25)) := (Below.refl _ _).alloc (Nat.le_refl _) _
  have H := Lib.hid (bytes_below h hA)
  have HA := Lib.hid hA
  clear h hA
  go_enter Try.func31, Try.ntmps31
  go_wp2_with fail
  refine (newReader_any _ _ _ _ f H.out).mono ?_
  rintro e w1 ⟨rfl, hr, hb, hs⟩
  rw [World.size_alloc] at hr hb
  have HB := Lib.hid hb
  have hbs := hb.size
  rw [World.size_alloc] at hbs
  clear hs hb
  go_wp2_with fail
  refine (anyBook_any _ _ _ hr (by omega)).mono ?_
  rintro e w2 ⟨a2, b2, cap2, cap2', L, R, rfl, hl, hr2, hu⟩
  have HL := Lib.hid hl
  have HU := Lib.hid hu
  have hs2 := hu.size
  have HZ : Hid (w2.heap[w.heap.size]? = some (.cells #[.slice none 0 0, .slice none 0 0] 25 (0, 0))) := by
    show _ = _
    rw [hu.block _ (by omega) (by simp), HB.out.block _ (by simp)]
    exact heap_alloc_new w _
  clear hl hu
  go_upto_region 3 with fail
  have HRP : Reader ((w2.alloc (.cells #[.slice a2 L.length cap2, .slice b2 R.length cap2'] 25)).drew) (w.heap.size + 1) (0 + 60) := (hr2.keep ((Below.refl _ _).alloc hr2.lt _)).upd (Upd.drew1 (lo := 0) (hi := 0) _) (by omega)
  have HT : Hid (∀ w3, Upd (w.heap.size + 1) (w.heap.size + 1 + 1) ((w2.alloc (.cells #[.slice a2 L.length cap2, .slice b2 R.length cap2'] 25)).drew) w3 → w3.heap[w2.heap.size]? = some (.cells #[.slice a2 L.length cap2, .slice b2 R.length cap2'] 25 (0, 0)) ∧ w3.heap[w.heap.size]? = some (.cells #[.slice none 0 0, .slice none 0 0] 25 (0, 0))) := by
    show ∀ w3, _ → _
    intro w3 u
    have hl2 := hr2.lt
    refine ⟨(u.block _ (by show w2.heap.size < (w2.alloc _).heap.size; simp) (by omega)).trans (heap_alloc_new w2 _), (u.block _ (by show w.heap.size < (w2.alloc _).heap.size; simp; omega) (by omega)).trans ?_⟩
    exact (Below.heap_alloc _ _ _ (by omega)).trans HZ.out
  go_region_with (go_at_call 52; refine (anyVector_any _ _ _ HRP (by omega)).mono ?_; rintro e w3 ⟨v3, cv3, l3, rfl, hi3, hq3, hr3, hu3⟩; have HI3 := Lib.hid hi3; have HQ3 := Lib.hid hq3; clear hi3 hq3; have hs3 := hu3.size; have q := HT.out w3 hu3; have t0 := cells2_0 q.1; have t1 := cells2_1 q.1; have z0 := cells2_0 q.2; have z1 := cells2_1 q.2; have zf := cells2_f q.2; have HQ := Lib.hid q; have HU3 := Lib.hid hu3; clear q hu3 hs3)
  all_goals
    go_wp2_with fail
    obtain ⟨c0, c1⟩ := store2 HQ.out.2 (.slice a2 L.length cap2) (.slice b2 R.length cap2')
    (try simp only [Exit.inBlock, Exit.then])
    refine bodyPost_ret (v := .tuple #[.agg #[.slice a2 L.length cap2, .slice b2 R.length cap2'], .slice v3 l3.length cv3]) (by simp [results, Try.results31, go_sem, c0, c1]) rfl ?_
    have hu3' : Upd (w.heap.size + 1) (w.heap.size + 1 + 1) w2 w3 := ((Upd.alloc w2 _).trans (Upd.drew1 _)).trans HU3.out
    have u : Upd w.heap.size (w.heap.size + 1) w3 ((w3.setCell ⟨w.heap.size, 0, none⟩ (.slice a2 L.length cap2)).setCell ⟨w.heap.size, 1, none⟩ (.slice b2 R.length cap2')) := (Upd.setCell w3 ⟨w.heap.size, 0, none⟩ _ (Nat.le_refl _) (Nat.lt_succ_self _)).trans (Upd.setCell _ ⟨w.heap.size, 1, none⟩ _ (Nat.le_refl _) (Nat.lt_succ_self _))
    have hs3 := u.size
    have hs4 := hu3'.size
    have hr1 := hr.lt
    have hsA : w2.heap.size ≤ (w2.alloc (.cells #[.slice a2 L.length cap2, .slice b2 R.length cap2'] 25)).drew.heap.size := by show _ ≤ (w2.alloc _).heap.size; simp
    have hb1 := HB.out
    have hu1 := HU.out
    refine ⟨a2, b2, cap2, cap2', L, R, v3, cv3, l3, rfl, ⟨((HL.out.1.upd hu3' (by omega)).upd u (by omega)).wide (by omega) (by omega), HL.out.2⟩, ⟨(HI3.out.1.upd u (by omega)).wide (by omega) hs3, HI3.out.2.2⟩, HQ3.out, ?_⟩
    exact HA.out.trans ((hb1.mono (by simp)).trans ((hu1.low (by simp) (by omega)).trans ((hu3'.low (by omega) (by omega)).trans (u.low (Nat.le_refl _) (by omega)))))
set_option maxHeartbeats 400000 in
theorem DrawCodeDistances_any (w : World) (a : Option Addr) (n cap : Nat) (f : Nat → Int) (h : Bytes w a n cap f) :
    Calls Try.prog 33 #[.slice a n cap] w (DrawnBookInts w) := by
  have hA : Below w.heap.size w (w.alloc (.cells #[.slice none 0 0, .slice none 0 0] 25)) := (Below.refl _ _).alloc (Nat.le_refl _) _
  have H := Lib.hid (bytes_below h hA)
  have HA := Lib.hid hA
  clear h hA
  go_enter Try.func33, Try.ntmps33
  go_wp2_with fail
  refine (DrawEncodeVector_any _ _ _ _ f H.out).mono ?_
  rintro e w2 ⟨a2, b2, cap2, cap2', L, R, v3, cv3, l3, rfl, hl, hi, hq, hb⟩
  have HL := Lib.hid hl
  have HI := Lib.hid hi
  have HQ := Lib.hid hq
  rw [World.size_alloc] at hb HL HI
  have HB := Lib.hid hb
  have hs2 := hb.size
  rw [World.size_alloc] at hs2
  have hz : w2.heap[w.heap.size]? = some (.cells #[.slice none 0 0, .slice none 0 0] 25 (0, 0)) := by
    rw [hb.block _ (by omega)]
    exact heap_alloc_new w _
  have z0 := cells2_0 hz
  have z1 := cells2_1 hz
  have zf := cells2_f hz
  have HZ := Lib.hid hz
  clear hz hl hi hq hb
  go_wp2_with fail
  obtain ⟨c0, c1⟩ := store2 HZ.out (.slice a2 L.length cap2) (.slice b2 R.length cap2')
  (try simp only [Exit.inBlock, Exit.then])
  refine bodyPost_ret (v := .tuple #[.agg #[.slice a2 L.length cap2, .slice b2 R.length cap2'], .slice v3 l3.length cv3]) (by simp [results, Try.results33, go_sem, c0, c1]) rfl ?_
  have u : Upd w.heap.size (w.heap.size + 1) w2 ((w2.setCell ⟨w.heap.size, 0, none⟩ (.slice a2 L.length cap2)).setCell ⟨w.heap.size, 1, none⟩ (.slice b2 R.length cap2')) := (Upd.setCell w2 ⟨w.heap.size, 0, none⟩ _ (Nat.le_refl _) (Nat.lt_succ_self _)).trans (Upd.setCell _ ⟨w.heap.size, 1, none⟩ _ (Nat.le_refl _) (Nat.lt_succ_self _))
  have hs3 := u.size
  have hb1 := HB.out
  exact ⟨a2, b2, cap2, cap2', L, R, v3, cv3, l3, rfl, ⟨(HL.out.1.upd u (by omega)).wide (by omega) hs3, HL.out.2⟩, ⟨(HI.out.1.upd u (by omega)).wide (by omega) hs3, HI.out.2⟩, HQ.out, HA.out.trans ((hb1.mono (by simp)).trans (u.low (Nat.le_refl _) (by omega)))⟩
end Go.Proofs.Ytnfjbjlcglfabaa
