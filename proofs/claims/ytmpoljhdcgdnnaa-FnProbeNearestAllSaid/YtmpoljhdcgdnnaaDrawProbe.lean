/-
  What the Draw functions of probes hand over, whatever the code.
-/
import Derived.Test.YtmpoljhdcgdnnaaDrawStoreTops
import Derived.Test.YtmpoljhdcgdnnaaDrawTops
namespace Go.Proofs.Ytmpoljhdcgdnnaa
open Go.RowKit
set_option linter.unusedVariables false

def SmallPost (w : World) (B c : Nat) (e : Ending) (w' : World) : Prop :=
  ∃ x : Int, e = .returned (.int .i64 x) ∧ (0 ≤ x ∧ x ≤ 20) ∧ Reader w' B c ∧ Upd B (B + 1) w w'
set_option maxHeartbeats 400000 in
theorem someK_any (w : World) (B c : Nat) (hr : Reader w B c) (hc : c ≤ 1099511600000) :
    Calls Try.prog 48 #[.pointer (some ⟨B, 0, none⟩)] w (SmallPost w B (c + 1)) := by
  have hB := hr.lt
  go_enter Try.func48, Try.ntmps48
  go_wp2_with fail
  refine (one_any _ B c _ _ _ _ [1, 2, 3, 5, 16, 4, 0, 17] (hr.keep ((Below.refl _ _).alloc hB _)) (by omega) (ints_lit w _ _ (fun x hx => by simp at hx; omega) (by simp)) (by simp) hB).mono ?_
  rintro e w1 ⟨n, rfl, hn, hr1, hu1, hs1⟩
  have hn' : 0 ≤ n ∧ n ≤ 20 := by simp at hn; omega
  have HU1 := Lib.hid ((Upd.alloc w _).trans hu1)
  have HR1 := Lib.hid hr1
  clear hn hs1 hu1 hr1
  go_wp2_with fail
  go_ret
  exact ⟨n, rfl, hn', HR1.out, HU1.out⟩
def DrawnListsO (w : World) (e : Ending) (w' : World) : Prop :=
  ∃ (a b : Option Addr) (cap cap' : Nat) (ll : List (List Int)) (l : List Int), e = .returned (.tuple #[.slice a ll.length cap, .slice b l.length cap']) ∧ (Lists w' w.heap.size w'.heap.size a ll ∧ Cap ll.length cap) ∧ (Ints w' w.heap.size w'.heap.size b l ∧ Cap l.length cap') ∧
    (ll.length ≤ 10 ∧ 1 ≤ l.length ∧ l.length ≤ 5) ∧ Below w.heap.size w w'
set_option maxHeartbeats 400000 in
theorem DrawCentreOf_own (w : World) (a : Option Addr) (n cap : Nat) (f : Nat → Int) (h : Bytes w a n cap f) :
    Calls Try.prog 68 #[.slice a n cap] w (DrawnListsO w) := by
  have H := Lib.hid h
  clear h
  go_enter Try.func68, Try.ntmps68
  go_wp2_with fail
  refine (newReader_any _ _ _ _ f H.out).mono ?_
  rintro e w1 ⟨rfl, hr, hb, hs⟩
  have HB := Lib.hid hb
  have hbs := hb.size
  clear hs hb
  go_wp2_with fail
  refine (anyCentres_any _ _ _ hr (by omega)).mono ?_
  rintro e w2 ⟨a2, cap2, ll, rfl, hl, hq, hr2, hu⟩
  have HL := Lib.hid hl
  have HU := Lib.hid hu
  have HQ := Lib.hid hq
  have hs2 := hu.size
  clear hl hu hq
  go_wp2_with fail
  refine (anyVector_any _ _ _ hr2 (by omega)).mono ?_
  rintro e w3 ⟨a3, cap3, l, rfl, hi, hq, hr3, hu3⟩
  have HI := Lib.hid hi
  have HU3 := Lib.hid hu3
  have HQ3 := Lib.hid hq
  have hs3 := hu3.size
  have HR := Lib.hid hr.lt
  clear hi hu3 hq
  go_wp2_with fail
  go_ret2
  exact ⟨a2, a3, cap2, cap3, ll, l, rfl, ⟨(HL.out.1.upd HU3.out (by have := HR.out; omega)).wide hbs hs3, HL.out.2⟩, ⟨HI.out.1.wide (by omega) (Nat.le_refl _), HI.out.2.2⟩, ⟨HQ.out, HQ3.out⟩, HB.out.trans ((HU.out.trans HU3.out).low (Nat.le_refl _) hbs)⟩
theorem bytes_below' {w w' : World} {a : Option Addr} {n cap : Nat} {f : Nat → Int} (h : Bytes w a n cap f) (u : Below w.heap.size w w') : Bytes w' a n cap f :=
  ⟨h.1, h.2.1, h.2.2.1, fun h0 => by
    obtain ⟨b, off, ha, hc⟩ := h.2.2.2 h0
    exact ⟨b, off, ha, fun j hj => ⟨cell_later u (hc j hj).1, (hc j hj).2⟩⟩⟩
def DrawnProbe (w : World) (e : Ending) (w' : World) : Prop :=
  ∃ (a b : Option Addr) (cap cap' : Nat) (ll : List (List Int)) (l : List Int) (k : Int), e = .returned (.tuple #[.slice a ll.length cap, .slice b l.length cap', .int .i64 k]) ∧ (Lists w' 0 w'.heap.size a ll ∧ Cap ll.length cap) ∧ (Ints w' 0 w'.heap.size b l ∧ Cap l.length cap') ∧
    (ll.length ≤ 10 ∧ 1 ≤ l.length ∧ l.length ≤ 5) ∧ (0 ≤ k ∧ k ≤ 20) ∧ Below w.heap.size w w'
set_option maxHeartbeats 1000000 in
theorem DrawProbeOrder_any (w : World) (a : Option Addr) (n cap : Nat) (f : Nat → Int) (h : Bytes w a n cap f) :
    Calls Try.prog 35 #[.slice a n cap] w (DrawnProbe w) := by
  have H := Lib.hid h
  clear h
  go_enter Try.func35, Try.ntmps35
  go_wp2_with fail
  refine (newReader_any _ _ _ _ f H.out).mono ?_
  rintro e w1 ⟨rfl, hr, hb, hs⟩
  have HB := Lib.hid hb
  have hbs := hb.size
  have HH := Lib.hid (bytes_below' H.out hb)
  have HRR := Lib.hid hr
  clear hb hr
  go_wp2_with fail
  refine (DrawCentreOf_own _ _ _ _ f HH.out).mono ?_
  rintro e w2 ⟨a2, b2, cap2, cap2', ll, l, rfl, hl, hi, hq, hb2⟩
  have HL := Lib.hid (And.intro hl hi)
  have HSS := Lib.hid hs
  have HQ := Lib.hid hq
  have HR2 := Lib.hid (HRR.out.keep (hb2.mono HRR.out.lt))
  have HB2 : Hid (Below w.heap.size w w2) := Lib.hid (HB.out.trans (hb2.mono hbs))
  have hs2 := HB2.out.size
  clear hl hi hq hb2
  go_wp2_with fail
  have hlt := HR2.out.lt
  refine (one_any _ w.heap.size 0 _ _ _ _ [1, 2, 3, 4, 0, 5] (HR2.out.keep ((Below.refl _ _).alloc hlt _)) (by omega) (ints_lit w2 _ _ (fun x hx => by simp at hx; omega) (by simp)) (by simp) hlt).mono ?_
  rintro e w3 ⟨k, rfl, hn, hr3, hu3, hs3⟩
  have hn' : 0 ≤ k ∧ k ≤ 20 := by simp at hn; omega
  have HU3 := Lib.hid ((Upd.alloc (lo := w.heap.size) (hi := w.heap.size + 1) w2 (.cells (List.map (Value.int .i64) [1, 2, 3, 4, 0, 5]).toArray 3)).trans hu3)
  have hs4 := HU3.out.size
  clear hn hs3 hu3 hr3
  go_wp2_with fail
  (try simp only [Exit.inBlock, Exit.then])
  refine bodyPost_ret (v := .tuple #[.slice a2 ll.length cap2, .slice b2 l.length cap2', .int .i64 k]) (by simp [results, Try.results35, go_sem]) rfl ?_
  have hd1 : Lists w3 w.heap.size.succ w3.heap.size a2 ll := (HL.out.1.1.upd HU3.out (by omega)).wide (by omega) hs4
  have hd2 : Ints w3 w.heap.size.succ w3.heap.size b2 l := (HL.out.2.1.upd HU3.out (by omega)).wide (by omega) hs4
  exact ⟨a2, b2, cap2, cap2', ll, l, k, rfl, ⟨hd1.wide (Nat.zero_le _) (Nat.le_refl _), HL.out.1.2⟩, ⟨hd2.wide (Nat.zero_le _) (Nat.le_refl _), HL.out.2.2⟩, HQ.out, hn', HB2.out.trans (HU3.out.low (Nat.le_refl _) hs2)⟩
def DrawnNear (w : World) (e : Ending) (w' : World) : Prop :=
  ∃ (a b p : Option Addr) (cap cap' capp : Nat) (cs : List (List Int)) (ll : List It) (m : List Int) (n k : Int), e = .returned (.tuple #[.slice a cs.length cap, .slice b ll.length cap', .slice p m.length capp, .int .i64 n, .int .i64 k]) ∧
    (Lists w' 0 w'.heap.size a cs ∧ Cap cs.length cap) ∧ (Items w' 0 w'.heap.size b ll ∧ Cap ll.length cap') ∧ (Ints w' 0 w'.heap.size p m ∧ Cap m.length capp) ∧
    (cs.length ≤ 10 ∧ ll.length ≤ 17 ∧ m.length ≤ 5) ∧ ((0 ≤ n ∧ n ≤ 20) ∧ 0 ≤ k ∧ k ≤ 20) ∧ Below w.heap.size w w'
set_option maxHeartbeats 1000000 in
theorem DrawProbeNearest_any (w : World) (a : Option Addr) (n cap : Nat) (f : Nat → Int) (h : Bytes w a n cap f) :
    Calls Try.prog 12 #[.slice a n cap] w (DrawnNear w) := by
  have H := Lib.hid h
  clear h
  go_enter Try.func12, Try.ntmps12
  go_wp2_with fail
  refine (newReader_any _ _ _ _ f H.out).mono ?_
  rintro e w1 ⟨rfl, hr, hb, hs⟩
  have HB := Lib.hid hb
  have hbs := hb.size
  clear hs hb
  go_wp2_with fail
  refine (anyCentres_any _ _ _ hr (by omega)).mono ?_
  rintro e w2 ⟨a2, cap2, cs, rfl, hl, hq, hr2, hu⟩
  have HL := Lib.hid hl
  have HU := Lib.hid hu
  have HQ := Lib.hid (show cs.length ≤ 10 from hq)
  have hs2 := hu.size
  clear hl hu hq
  go_wp2_with fail
  refine (anyStore_any _ _ _ hr2 (by omega)).mono ?_
  rintro e w3 ⟨a3, cap3, ll, rfl, ho, hq, hr3, hu3⟩
  obtain ⟨a', c', hv, hi, hc⟩ := items_of_owns ho (by omega) (Nat.le_refl _)
  simp only [Value.slice.injEq] at hv
  obtain ⟨rfl, _, rfl⟩ := hv
  have HI := Lib.hid (And.intro hi hc)
  have HQ3 := Lib.hid (show ll.length ≤ 17 from hq)
  have HU3 := Lib.hid hu3
  have hs3 := hu3.size
  have HR := Lib.hid hr.lt
  clear hi hu3 ho hc hq
  go_wp2_with fail
  refine (anyVector_any _ _ _ hr3 (by omega)).mono ?_
  rintro e w4 ⟨a4, cap4, m, rfl, hi4, hq4, hr4, hu4⟩
  have HM := Lib.hid hi4
  have HQ4 := Lib.hid (show 1 ≤ m.length ∧ m.length ≤ 5 from hq4)
  have HU4 := Lib.hid hu4
  have hs4 := hu4.size
  clear hi4 hq4 hu4
  have HR4 := Lib.hid hr4
  have hlt := hr4.lt
  clear hr hr2 hr3 hr4
  go_wp2_with fail
  refine (one_any _ w.heap.size _ _ _ _ _ [1, 2, 3, 4, 0, 5, 1] (HR4.out.keep ((Below.refl _ _).alloc hlt _)) (by omega) (ints_lit w4 _ _ (fun x hx => by simp at hx; omega) (by simp)) (by simp) hlt).mono ?_
  rintro e w5 ⟨q, rfl, hn, hr5, hu5, hs5⟩
  have HN : Hid (0 ≤ q ∧ q ≤ 20) := Lib.hid (by simp at hn; omega)
  have HU5 := Lib.hid ((Upd.alloc (lo := w.heap.size) (hi := w.heap.size + 1) w4 (.cells (List.map (Value.int .i64) [1, 2, 3, 4, 0, 5, 1]).toArray 3)).trans hu5)
  have hs6 := HU5.out.size
  clear hn hs5 hu5
  go_wp2_with fail
  refine (someK_any _ _ _ hr5 (by omega)).mono ?_
  rintro e w6 ⟨k, rfl, hk, hr6, hu6⟩
  have HK := Lib.hid hk
  have HU6 := Lib.hid hu6
  have hs7 := hu6.size
  clear hr5 hr6 hu6 hk
  go_wp2_with fail
  (try simp only [Exit.inBlock, Exit.then])
  refine bodyPost_ret (v := .tuple #[.slice a2 cs.length cap2, .slice a3 ll.length cap3, .slice a4 m.length cap4, .int .i64 q, .int .i64 k]) (by simp [results, Try.results12, go_sem]) rfl ?_
  have hRl := HR.out
  have U56 := HU5.out.trans HU6.out
  have U46 := HU4.out.trans U56
  have U36 := HU3.out.trans U46
  exact ⟨a2, a3, a4, cap2, cap3, cap4, cs, ll, m, q, k, rfl, ⟨(HL.out.1.upd U36 (by omega)).wide (Nat.zero_le _) (by omega), HL.out.2⟩, ⟨(HI.out.1.upd U46 (by omega)).wide (Nat.zero_le _) (by omega), HI.out.2⟩,
    ⟨(HM.out.1.upd U56 (by omega)).wide (Nat.zero_le _) (by omega), HM.out.2.2⟩, ⟨HQ.out, HQ3.out, HQ4.out.2⟩, ⟨HN.out, HK.out⟩, HB.out.trans ((HU.out.trans U36).low (Nat.le_refl _) hbs)⟩
def DrawnCost (w : World) (e : Ending) (w' : World) : Prop :=
  ∃ (a b p : Option Addr) (cap cap' capp : Nat) (cs : List (List Int)) (ll : List It) (m : List Int) (n : Int), e = .returned (.tuple #[.slice a cs.length cap, .slice b ll.length cap', .slice p m.length capp, .int .i64 n]) ∧
    (Lists w' 0 w'.heap.size a cs ∧ Cap cs.length cap) ∧ (Items w' 0 w'.heap.size b ll ∧ Cap ll.length cap') ∧ (Ints w' 0 w'.heap.size p m ∧ Cap m.length capp) ∧
    (cs.length ≤ 10 ∧ ll.length ≤ 17 ∧ m.length ≤ 5) ∧ (0 ≤ n ∧ n ≤ 20) ∧ Below w.heap.size w w'
set_option maxHeartbeats 1000000 in
theorem DrawProbeCost_any (w : World) (a : Option Addr) (n cap : Nat) (f : Nat → Int) (h : Bytes w a n cap f) :
    Calls Try.prog 41 #[.slice a n cap] w (DrawnCost w) := by
  have H := Lib.hid h
  clear h
  go_enter Try.func41, Try.ntmps41
  go_wp2_with fail
  refine (DrawProbeNearest_any _ _ _ _ f H.out).mono ?_
  rintro e w2 ⟨a2, b2, p2, cap2, cap2', capp, cs, ll, m, q, k, rfl, hl⟩
  have HL := Lib.hid hl
  clear hl
  go_wp2_with fail
  (try simp only [Exit.inBlock, Exit.then])
  refine bodyPost_ret (v := .tuple #[.slice a2 cs.length cap2, .slice b2 ll.length cap2', .slice p2 m.length capp, .int .i64 q]) (by simp [results, Try.results41, go_sem]) rfl ?_
  obtain ⟨h1, h2, h3, h4, h5, h6⟩ := HL.out
  exact ⟨a2, b2, p2, cap2, cap2', capp, cs, ll, m, q, rfl, h1, h2, h3, h4, h5.1, h6⟩
end Go.Proofs.Ytmpoljhdcgdnnaa
