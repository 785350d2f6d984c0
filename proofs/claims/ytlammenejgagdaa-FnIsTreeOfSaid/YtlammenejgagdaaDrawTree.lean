/-
  What the Draw functions of searches in trees hand over, whatever the code.
-/
import Derived.Test.YtlammenejgagdaaDrawStore
namespace Go.Proofs.Ytlammenejgagdaa
open Go.RowKit
set_option linter.unusedVariables false

def SmallPost (w : World) (B c : Nat) (e : Ending) (w' : World) : Prop :=
  ∃ x : Int, e = .returned (.int .i64 x) ∧ (0 ≤ x ∧ x ≤ 20) ∧ Reader w' B c ∧ Upd B (B + 1) w w'
set_option maxHeartbeats 400000 in
theorem someK_any (w : World) (B c : Nat) (hr : Reader w B c) (hc : c ≤ 1099511600000) :
    Calls Try.prog 60 #[.pointer (some ⟨B, 0, none⟩)] w (SmallPost w B (c + 1)) := by
  have hB := hr.lt
  go_enter Try.func60, Try.ntmps60
  go_wp2_with fail
  refine (one_any _ B c _ _ _ _ [1, 2, 3, 5, 16, 4, 0, 17] (hr.keep ((Below.refl _ _).alloc hB _)) (by omega) (ints_lit w _ _ (fun x hx => by simp at hx; omega) (by simp)) (by simp) hB).mono ?_
  rintro e w1 ⟨n, rfl, hn, hr1, hu1, hs1⟩
  have hn' : 0 ≤ n ∧ n ≤ 20 := by simp at hn; omega
  have HU1 := Lib.hid ((Upd.alloc w _).trans hu1)
  have HR1 := Lib.hid hr1
  clear hn hs1 hu1 hr1
  go_wp2_with fail
  go_ret
  exact ⟨n, rfl, hn', HR1.out, HU1.out⟩
set_option maxHeartbeats 400000 in
theorem anyKind_any (w : World) (B c : Nat) (hr : Reader w B c) (hc : c ≤ 1099511600000) :
    Calls Try.prog 46 #[.pointer (some ⟨B, 0, none⟩)] w (SmallPost w B (c + 1)) := by
  have hB := hr.lt
  go_enter Try.func46, Try.ntmps46
  go_wp2_with fail
  refine (one_any _ B c _ _ _ _ [1, 2, 3, 4, 1, 2, 3, 4, 1, 2, 0, 5] (hr.keep ((Below.refl _ _).alloc hB _)) (by omega) (ints_lit w _ _ (fun x hx => by simp at hx; omega) (by simp)) (by simp) hB).mono ?_
  rintro e w1 ⟨n, rfl, hn, hr1, hu1, hs1⟩
  have hn' : 0 ≤ n ∧ n ≤ 20 := by simp at hn; omega
  have HU1 := Lib.hid ((Upd.alloc w _).trans hu1)
  have HR1 := Lib.hid hr1
  clear hn hs1 hu1 hr1
  go_wp2_with fail
  go_ret
  exact ⟨n, rfl, hn', HR1.out, HU1.out⟩
/-- a drawn store and a kind -/
def DrawnPair (w : World) (e : Ending) (w' : World) : Prop :=
  ∃ (a : Option Addr) (cap : Nat) (ll : List It) (kind : Int), e = .returned (.tuple #[.slice a ll.length cap, .int .i64 kind]) ∧ (Items w' 0 w'.heap.size a ll ∧ Cap ll.length cap) ∧ ll.length ≤ 17 ∧ (0 ≤ kind ∧ kind ≤ 20) ∧ Below w.heap.size w w'
set_option maxHeartbeats 400000 in
theorem DrawClosestPair_any (w : World) (a : Option Addr) (n cap : Nat) (f : Nat → Int) (h : Bytes w a n cap f) :
    Calls Try.prog 23 #[.slice a n cap] w (DrawnPair w) := by
  have H := Lib.hid h
  clear h
  go_enter Try.func23, Try.ntmps23
  go_wp2_with fail
  refine (newReader_any _ _ _ _ f H.out).mono ?_
  rintro e w1 ⟨rfl, hr, hb, hs⟩
  have HB := Lib.hid hb
  have hbs := hb.size
  clear hs hb
  go_wp2_with fail
  refine (anyStore_any _ _ _ hr (by omega)).mono ?_
  rintro e w2 ⟨a2, cap2, ll, rfl, ho, hq, hr2, hu⟩
  obtain ⟨a', c', hv, hi, hc⟩ := items_of_owns ho (by omega) (Nat.le_refl _)
  simp only [Value.slice.injEq] at hv
  obtain ⟨rfl, _, rfl⟩ := hv
  have HI := Lib.hid (And.intro hi hc)
  have HU := Lib.hid hu
  have hs2 := hu.size
  have hrl := hr.lt
  clear hi hu hc ho
  go_wp2_with fail
  refine (anyKind_any _ _ _ hr2 (by omega)).mono ?_
  rintro e w3 ⟨kind, rfl, hk, hr3, hu3⟩
  have HU3 := Lib.hid hu3
  have hs3 := hu3.size
  clear hu3 hr3
  go_wp2_with fail
  go_ret2
  exact ⟨a2, cap2, ll, kind, rfl, ⟨(HI.out.1.upd HU3.out (by omega)).wide (Nat.zero_le _) hs3, HI.out.2⟩, hq, hk, HB.out.trans ((HU.out.trans HU3.out).low (Nat.le_refl _) hbs)⟩
/-- a drawn search -/
def DrawnNear (w : World) (e : Ending) (w' : World) : Prop :=
  ∃ (a b : Option Addr) (cap capm : Nat) (ll : List It) (q : List Int) (kind k : Int), e = .returned (.tuple #[.slice a ll.length cap, .int .i64 kind, .slice b q.length capm, .int .i64 k]) ∧ (Items w' 0 w'.heap.size a ll ∧ Cap ll.length cap) ∧ (Ints w' 0 w'.heap.size b q ∧ Cap q.length capm) ∧ (ll.length ≤ 17 ∧ q.length ≤ 5) ∧ (0 ≤ kind ∧ kind ≤ 20) ∧ (0 ≤ k ∧ k ≤ 20) ∧ Below w.heap.size w w'
set_option maxHeartbeats 1000000 in
theorem DrawNearest_any (w : World) (a : Option Addr) (n cap : Nat) (f : Nat → Int) (h : Bytes w a n cap f) :
    Calls Try.prog 34 #[.slice a n cap] w (DrawnNear w) := by
  have H := Lib.hid h
  clear h
  go_enter Try.func34, Try.ntmps34
  go_wp2_with fail
  refine (newReader_any _ _ _ _ f H.out).mono ?_
  rintro e w1 ⟨rfl, hr, hb, hs⟩
  have HB := Lib.hid hb
  have hbs := hb.size
  clear hs hb
  go_wp2_with fail
  refine (anyStore_len _ _ _ hr (by omega)).mono ?_
  rintro e w2 ⟨a2, cap2, ll, rfl, ho, hq, hlb, hr2, hu⟩
  obtain ⟨a', c', hv, hi, hc⟩ := items_of_owns ho (by omega) (Nat.le_refl _)
  simp only [Value.slice.injEq] at hv
  obtain ⟨rfl, _, rfl⟩ := hv
  have HI := Lib.hid (And.intro hi hc)
  have HU := Lib.hid hu
  have HLB := Lib.hid hlb
  have hs2 := hu.size
  have hrl := hr.lt
  clear hi hu hc ho hlb
  go_wp2_with fail
  refine (anyKind_any _ _ _ hr2 (by omega)).mono ?_
  rintro e w3 ⟨kind, rfl, hk, hr3, hu3⟩
  have HU3 := Lib.hid hu3
  have hs3 := hu3.size
  clear hu3
  go_wp2_with fail
  refine (anyVector_any _ _ _ hr3 (by omega)).mono ?_
  rintro e w4 ⟨b4, cap4, q4, rfl, hi4, hq4', hr4, hu4⟩
  have hq4 : q4.length ≤ 5 := hq4'.2
  have HQ4 := Lib.hid (And.intro hi4.1 hi4.2.2)
  have HU4 := Lib.hid (HU3.out.trans hu4)
  have hs4 := hu4.size
  have HI4 := Lib.hid (And.intro (HI.out.1.upd HU4.out (by omega)) HI.out.2)
  have HUA := Lib.hid (HU.out.trans HU4.out)
  clear hi4 hq4' hu4
  by_cases hl0 : ll.length = 0
  · have HRX := Lib.hid hr4
    have HIX := Lib.hid HI4.out
    have HQX := Lib.hid HQ4.out
    have HUX := Lib.hid HUA.out
    have hl0' : ¬ (0 : Int) < (ll.length : Int) := by omega
    clear hl0
    go_wp2_with fail
    refine (someK_any _ _ _ HRX.out (by omega)).mono ?_
    rintro e w9 ⟨k9, rfl, hk9, hr9, hu9⟩
    have HU9 := Lib.hid hu9
    have hs9 := hu9.size
    clear hu9 hr9
    go_wp2_with fail
    (try simp only [Exit.inBlock, Exit.then])
    refine bodyPost_ret (v := .tuple #[.slice a2 ll.length cap2, .int .i64 kind, .slice b4 q4.length cap4, .int .i64 k9]) (by simp [results, Try.results34, go_sem]) rfl ?_
    exact ⟨a2, b4, cap2, cap4, ll, q4, kind, k9, rfl, ⟨(HIX.out.1.upd HU9.out (by omega)).wide (Nat.zero_le _) (by omega), HIX.out.2⟩, ⟨(HQX.out.1.upd HU9.out (by omega)).wide (Nat.zero_le _) (by omega), HQX.out.2⟩, ⟨hq, hq4⟩, hk, hk9, HB.out.trans ((HUX.out.trans HU9.out).low (Nat.le_refl _) hbs)⟩
  · have hl1 : (0 : Int) < (ll.length : Int) := by omega
    go_wp2_with fail
    refine (pick_any _ _ _ _ hr4 (by omega) (by omega) (by omega)).mono ?_
    rintro e w5 ⟨p, rfl, p0, p1, hr5, hu5, hs5⟩
    have HU5 := Lib.hid hu5
    have hs5' := hu5.size
    clear hu5 hs5
    by_cases hp : p = 0
    · subst hp
      go_wp2_with fail
      refine (pick_any _ _ _ _ hr5 (by omega) (by omega) (by omega)).mono ?_
      rintro e w6 ⟨z, rfl, z0, z1, hr6, hu6, hs6⟩
      obtain ⟨j, rfl, hj⟩ : ∃ j : Nat, z = (j : Int) ∧ j < ll.length := ⟨z.toNat, by omega, by omega⟩
      have HU6 := Lib.hid (HU5.out.trans hu6)
      have hs6' := hu6.size
      have HI6 := Lib.hid (And.intro (HI4.out.1.upd HU6.out (by omega)) HI4.out.2)
      obtain ⟨bb, off, rfl, hbb, hbh, aj, cj, c0, c1, c2, hx, hcj, -, -⟩ := HI6.out.1.at_ hj
      have hlx := HLB.out (ll.getD j It.no) (by rw [List.getD_eq_getElem?_getD, List.getElem?_eq_getElem hj]; exact List.getElem_mem _)
      obtain ⟨x, ex⟩ : ∃ x, ll.getD j It.no = x := ⟨_, rfl⟩
      rw [ex] at c0 c1 c2 hx hcj hlx
      have CI := Lib.hid (copyInts_any w6 _ _ aj cj x.pos hx (by have := hlx.2; omega) hlx.1)
      have HLX := Lib.hid hlx
      have HOK := Lib.hid (And.intro hx.ok hx.len)
      have hji : (j : Int) < (ll.length : Int) := by omega
      clear hu6 hs6 z0 z1 ex hx hcj hlx c0 c2 p0 p1
      go_wp2_with fail
      refine CI.out.mono ?_
      rintro e w7 ⟨g7, c7, rfl, g70, g71, hown7, hb7⟩
      obtain ⟨a7, cc7, hv7, hi7⟩ := ints_of_owns hown7 HOK.out.1 (by have := HLX.out; unfold LenI at this; omega)
      simp only [Value.slice.injEq] at hv7
      obtain ⟨rfl, _, rfl⟩ := hv7
      obtain ⟨b4, cap4, q4, eb, ec, eq⟩ : ∃ (b4 : Option Addr) (cap4 : Nat) (q4 : List Int), some (⟨g7, 0, none⟩ : Addr) = b4 ∧ c7 = cap4 ∧ x.pos = q4 := ⟨_, _, _, rfl, rfl, rfl⟩
      have hq4 : q4.length ≤ 5 := by rw [← eq]; exact HLX.out.2
      have HRX := Lib.hid (hr6.keep (hb7.mono hr6.lt))
      have hs7 := hb7.size
      have HIX := Lib.hid (And.intro (HI6.out.1.below hb7) HI6.out.2)
      have HQX : Hid (Ints w7 w6.heap.size w7.heap.size b4 q4 ∧ Cap q4.length cap4) := Lib.hid (by rw [← eb, ← ec, ← eq]; exact ⟨hi7, g70, g71⟩)
      have HUX := Lib.hid ((HUA.out.trans HU6.out).trans (Upd.of_below hb7))
      obtain ⟨a2, ea⟩ : ∃ a2 : Option Addr, some (⟨bb, off, none⟩ : Addr) = a2 := ⟨_, rfl⟩
      rw [ea] at HIX
      rw [eb, ec, eq]
      clear hi7 hb7 hown7 hr6 c1 CI
      go_wp2_with fail
      refine (someK_any _ _ _ HRX.out (by omega)).mono ?_
      rintro e w9 ⟨k9, rfl, hk9, hr9, hu9⟩
      have HU9 := Lib.hid hu9
      have hs9 := hu9.size
      clear hu9 hr9
      go_wp2_with fail
      (try simp only [Exit.inBlock, Exit.then])
      refine bodyPost_ret (v := .tuple #[.slice a2 ll.length cap2, .int .i64 kind, .slice b4 q4.length cap4, .int .i64 k9]) (by simp [results, Try.results34, go_sem]) rfl ?_
      exact ⟨a2, b4, cap2, cap4, ll, q4, kind, k9, rfl, ⟨(HIX.out.1.upd HU9.out (by omega)).wide (Nat.zero_le _) (by omega), HIX.out.2⟩, ⟨(HQX.out.1.upd HU9.out (by omega)).wide (Nat.zero_le _) (by omega), HQX.out.2⟩, ⟨hq, hq4⟩, hk, hk9, HB.out.trans ((HUX.out.trans HU9.out).low (Nat.le_refl _) hbs)⟩
    · have hp' : (p == 0) = false := by simpa using hp
      have HRX := Lib.hid hr5
      have HIX := Lib.hid (And.intro (HI4.out.1.upd HU5.out (by omega)) HI4.out.2)
      have HQX := Lib.hid (And.intro (HQ4.out.1.upd HU5.out (by omega)) HQ4.out.2)
      have HUX := Lib.hid (HUA.out.trans HU5.out)
      clear hp
      go_wp2_with fail
      refine (someK_any _ _ _ HRX.out (by omega)).mono ?_
      rintro e w9 ⟨k9, rfl, hk9, hr9, hu9⟩
      have HU9 := Lib.hid hu9
      have hs9 := hu9.size
      clear hu9 hr9
      go_wp2_with fail
      (try simp only [Exit.inBlock, Exit.then])
      refine bodyPost_ret (v := .tuple #[.slice a2 ll.length cap2, .int .i64 kind, .slice b4 q4.length cap4, .int .i64 k9]) (by simp [results, Try.results34, go_sem]) rfl ?_
      exact ⟨a2, b4, cap2, cap4, ll, q4, kind, k9, rfl, ⟨(HIX.out.1.upd HU9.out (by omega)).wide (Nat.zero_le _) (by omega), HIX.out.2⟩, ⟨(HQX.out.1.upd HU9.out (by omega)).wide (Nat.zero_le _) (by omega), HQX.out.2⟩, ⟨hq, hq4⟩, hk, hk9, HB.out.trans ((HUX.out.trans HU9.out).low (Nat.le_refl _) hbs)⟩
set_option maxHeartbeats 400000 in
theorem DrawTreeNearest_any (w : World) (a : Option Addr) (n cap : Nat) (f : Nat → Int) (h : Bytes w a n cap f) :
    Calls Try.prog 14 #[.slice a n cap] w (DrawnNear w) := by
  have H := Lib.hid h
  clear h
  go_enter Try.func14, Try.ntmps14
  go_wp2_with fail
  refine (DrawNearest_any _ _ _ _ f H.out).mono ?_
  rintro e w1 ⟨a2, b2, cap2, capm2, ll, q, kind, k, rfl, h1, h2, h3, h4, h5, h6⟩
  have HH := Lib.hid (And.intro h1 (And.intro h2 (And.intro h3 (And.intro h4 (And.intro h5 h6)))))
  clear h1 h2 h3 h4 h5 h6
  go_wp2_with fail
  (try simp only [Exit.inBlock, Exit.then])
  refine bodyPost_ret (v := .tuple #[.slice a2 ll.length cap2, .int .i64 kind, .slice b2 q.length capm2, .int .i64 k]) (by simp [results, Try.results14, go_sem]) rfl ?_
  exact ⟨a2, b2, cap2, capm2, ll, q, kind, k, rfl, HH.out⟩
set_option maxHeartbeats 400000 in
theorem DrawTreeVisits_any (w : World) (a : Option Addr) (n cap : Nat) (f : Nat → Int) (h : Bytes w a n cap f) :
    Calls Try.prog 19 #[.slice a n cap] w (DrawnNear w) := by
  have H := Lib.hid h
  clear h
  go_enter Try.func19, Try.ntmps19
  go_wp2_with fail
  refine (DrawNearest_any _ _ _ _ f H.out).mono ?_
  rintro e w1 ⟨a2, b2, cap2, capm2, ll, q, kind, k, rfl, h1, h2, h3, h4, h5, h6⟩
  have HH := Lib.hid (And.intro h1 (And.intro h2 (And.intro h3 (And.intro h4 (And.intro h5 h6)))))
  clear h1 h2 h3 h4 h5 h6
  go_wp2_with fail
  (try simp only [Exit.inBlock, Exit.then])
  refine bodyPost_ret (v := .tuple #[.slice a2 ll.length cap2, .int .i64 kind, .slice b2 q.length capm2, .int .i64 k]) (by simp [results, Try.results19, go_sem]) rfl ?_
  exact ⟨a2, b2, cap2, capm2, ll, q, kind, k, rfl, HH.out⟩
end Go.Proofs.Ytlammenejgagdaa
