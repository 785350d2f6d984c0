/-
  Comparing hits, and marking them.
-/
import Derived.Test.YtllahaebfhaobaaHits
import Derived.Test.YtllahaebfhaobaaHitWalks
import Derived.Test.YtllahaebfhaobaaMarkWalks
import Derived.BigQuiet
namespace Go.Proofs.Ytllahaebfhaobaa
open Go.RowKit
set_option linter.unusedVariables false

set_option maxHeartbeats 1000000 in
theorem eqHit_same (w : World) (x : Ht) : Calls Try.prog 56 #[htV x, htV x] w fun e w' => e = .returned (.bool true) ∧ Below w.heap.size w w' := by
  obtain ⟨xk, xd⟩ := x
  show Calls Try.prog 56 #[.agg #[.int .i64 xk, .int .i64 xd], .agg #[.int .i64 xk, .int .i64 xd]] w _
  have HB : Hid (Below w.heap.size w ((w.alloc (.cells #[.int .i64 xk, .int .i64 xd] 58)).alloc (.cells #[.int .i64 xk, .int .i64 xd] 58))) := Lib.hid (((Below.refl _ _).alloc (Nat.le_refl _) _).alloc (by simp) _)
  go_enter Try.func56, Try.ntmps56
  go_wp2_with fail
  go_ret
  exact ⟨rfl, HB.out⟩
set_option maxHeartbeats 1000000 in
theorem eqHitS_same (w : World) (lo hi lo' hi' : Nat) (a b : Option Addr) (cap cap' : Nat) (ll : List Ht) (h : Hits w lo hi a ll) (h' : Hits w lo' hi' b ll) :
    Calls Try.prog 19 #[.slice a ll.length cap, .slice b ll.length cap'] w fun e w' => e = .returned (.bool true) ∧ Below w.heap.size w w' := by
  have hll := h.len
  go_enter Try.func19, Try.ntmps19
  go_wp2_with fail
  go_loopw [5] (fun i wr => ∃ k : Nat, k ≤ ll.length ∧ i = .int .i64 (k : Int) ∧ Hid (Below w.heap.size w wr)) (fun i _ => ll.length - (intOf i).toNat)
  case atStart => exact ⟨0, Nat.zero_le _, rfl, Below.refl _ _⟩
  case round =>
    obtain ⟨k, hk, rfl, HB⟩ := hrel
    by_cases hlt : k < ll.length
    · obtain ⟨b1, off, rfl, _, _, c0, c1⟩ := (h.below HB.out).at_ hlt
      obtain ⟨b2, off2, rfl, _, _, d0, d1⟩ := (h'.below HB.out).at_ hlt
      obtain ⟨x, ex⟩ : ∃ x, ll.getD k Ht.no = x := ⟨_, rfl⟩
      rw [ex] at c0 c1 d0 d1
      have cI := Lib.hid (met_below (fun w' hw' => eqHit_same w' x) (w := wr))
      have hki : (k : Int) < ll.length := by omega
      replace c0 := cell_regrown c0
      replace c1 := cell_regrown c1
      replace d0 := cell_regrown d0
      replace d1 := cell_regrown d1
      clear ex
      go_wp2_with fail
      refine wp_region_quiet_below (by kernel_rfl) (by kernel_rfl) ?_
      repeat (go_big_quiet_step ((go_at_call 56; exact cI.out _ _)))
      refine wpQuiet_nil ?_
      intro _ hw'
      obtain ⟨⟨dq, osq⟩, hw''⟩ := hw'
      subst hw''
      replace HB := Lib.hid (HB.out.trans ((below_regrown wr dq osq).mono HB.out.size))
      obtain ⟨w2, hw2⟩ : ∃ w2, Go.Sort.grow (redrawn wr dq) osq = w2 := ⟨_, rfl⟩
      rw [hw2] at HB ⊢
      clear hw2 c0 c1 d0 d1
      go_wp2_with fail
      go_roundw
      case rel => exact ⟨k + 1, by omega, by go_num, HB.out⟩
      case measure => simp [intOf]; omega
    · go_wp2_with fail
      go_ret
      exact ⟨rfl, HB.out⟩
set_option maxHeartbeats 1000000 in
theorem equalHits_same (w : World) (lo hi lo' hi' : Nat) (a b : Option Addr) (cap cap' : Nat) (ll : List Ht) (h : Hits w lo hi a ll) (h' : Hits w lo' hi' b ll) :
    Calls Try.prog 9 #[.slice a ll.length cap, .slice b ll.length cap'] w fun e w' => e = .returned (.bool true) ∧ Drawn w w' := by
  have hll := h.len
  go_enter Try.func9, Try.ntmps9
  go_wp2_with fail
  go_loopw [5] (fun i wr => ∃ k : Nat, k ≤ ll.length ∧ i = .int .i64 (k : Int) ∧ Hid (Drawn w wr)) (fun i _ => ll.length - (intOf i).toNat)
  case atStart => exact ⟨0, Nat.zero_le _, rfl, Drawn.refl _⟩
  case round =>
    obtain ⟨k, hk, rfl, HB⟩ := hrel
    by_cases hlt : k < ll.length
    · obtain ⟨b1, off, rfl, _, _, c0, c1⟩ := (h.drawn HB.out).at_ hlt
      obtain ⟨b2, off2, rfl, _, _, d0, d1⟩ := (h'.drawn HB.out).at_ hlt
      obtain ⟨x, ex⟩ : ∃ x, ll.getD k Ht.no = x := ⟨_, rfl⟩
      rw [ex] at c0 c1 d0 d1
      have hki : (k : Int) < ll.length := by omega
      clear ex
      go_wp2_with fail
      go_quiet (fail)
      go_wp2_with fail
      go_roundw
      case rel => exact ⟨k + 1, by omega, by go_num, Lib.hid (HB.out.more _)⟩
      case measure => simp [intOf]; omega
    · go_wp2_with fail
      go_ret
      exact ⟨rfl, HB.out⟩
/-- what marking leaves in n hits -/
def upH (k : Int) (n : Nat) : List Ht := (List.range n).map fun (j : Nat) => ⟨k + 2 * (j : Int), k + 2 * (j : Int) + 1⟩
theorem upH_length (k : Int) (n : Nat) : (upH k n).length = n := by unfold upH; simp
theorem upH_get {k : Int} {n j : Nat} (hj : j < n) : (upH k n).getD j Ht.no = ⟨k + 2 * (j : Int), k + 2 * (j : Int) + 1⟩ := by
  unfold upH
  rw [List.getD_eq_getElem?_getD, List.getElem?_map, List.getElem?_range hj]
  rfl
def MarkHPost (w : World) (lo hi : Nat) (a : Option Addr) (n : Nat) (k : Int) (e : Ending) (w' : World) : Prop :=
  e = .returned (.int .i64 (k + 2 * (n : Int))) ∧ HitsO w' lo hi a (upH k n) ∧ Upd lo hi w w' ∧ w'.heap.size = w.heap.size
set_option maxHeartbeats 1000000 in
theorem markHitS_any (w : World) (lo hi : Nat) (a : Option Addr) (cap : Nat) (l : List Ht) (k : Int) (h : HitsO w lo hi a l) (hl : l.length ≤ 1048576) (k0 : 0 ≤ k) (k1 : k ≤ 1152921504606846976) :
    Calls Try.prog 26 #[.slice a l.length cap, .int .i64 k] w (MarkHPost w lo hi a l.length k) := by
  by_cases h0 : l = []
  · subst h0
    show Calls Try.prog 26 #[.slice a 0 cap, .int .i64 k] w (MarkHPost w lo hi a 0 k)
    clear h hl
    go_enter Try.func26, Try.ntmps26
    go_wp2_with fail
    go_loopw [1, 5] (fun v i wr => v = .int .i64 k ∧ i = .int .i64 0 ∧ wr = w) (fun _ i _ => 0)
    case atStart => exact ⟨rfl, rfl, rfl⟩
    case round =>
      obtain ⟨rfl, rfl, rfl⟩ := hrel
      go_wp2_with fail
      go_ret
      exact ⟨ret_int (by simp), hitsO_nil _ _ _ _, Upd.refl _ _ _, rfl⟩
  · obtain ⟨h, hb⟩ := h
    obtain ⟨b, off, rfl, hlo, hhi, hcells⟩ := h.cells h0
    obtain ⟨c, hc⟩ := hb h0 b off rfl
    have hsz : ∀ j, j < l.length → off + j * 2 + 1 < c.size := fun j hj => by
      have := (hcells j hj).2
      rw [cell_blk hc] at this
      exact (Array.getElem?_eq_some_iff.1 this).1
    have HSZ := Lib.hid hsz
    have HC := Lib.hid hc
    have HLH := Lib.hid (And.intro hlo hhi)
    have hn0 : 0 < l.length := List.length_pos_iff.2 h0
    clear hsz hc hcells hb h hlo hhi h0
    obtain ⟨n, hn⟩ : ∃ n, l.length = n := ⟨_, rfl⟩
    rw [hn] at hl HSZ hn0 ⊢
    clear hn
    go_enter Try.func26, Try.ntmps26
    go_wp2_with fail
    go_loopw [1, 5] (fun v i wr => ∃ j : Nat, j ≤ n ∧ i = .int .i64 (j : Int) ∧ v = .int .i64 (k + 2 * (j : Int)) ∧ Hid (∃ c', wr.heap[b]? = some (.cells c' 58 (0, 0)) ∧ c'.size = c.size ∧ ∀ q, q < j → c'[off + q * 2]? = some (.int .i64 (k + 2 * (q : Int))) ∧ c'[off + q * 2 + 1]? = some (.int .i64 (k + 2 * (q : Int) + 1))) ∧ Hid (Upd b (b + 1) w wr ∧ wr.heap.size = w.heap.size)) (fun _ i _ => n - (intOf i).toNat)
    case atStart => exact ⟨0, Nat.zero_le _, rfl, by simp, ⟨c, HC.out, rfl, fun q hq => by omega⟩, Upd.refl _ _ _, rfl⟩
    case round =>
      obtain ⟨j, hj, rfl, rfl, HR, HU⟩ := hrel
      by_cases hlt : j < n
      · obtain ⟨c', q1, q2, q3⟩ := HR.out
        have hin : off + j * 2 + 1 < c'.size := by rw [q2]; exact HSZ.out j hlt
        obtain ⟨v0, hv0⟩ : ∃ v0, c'[off + j * 2]? = some v0 := ⟨_, Array.getElem?_eq_getElem (by omega)⟩
        obtain ⟨v1, hv1⟩ : ∃ v1, c'[off + j * 2 + 1]? = some v1 := ⟨_, Array.getElem?_eq_getElem hin⟩
        have hcell := (cell_blk (o := off + j * 2) q1).trans hv0
        have hfr := frozen_blk (o := off + j * 2) q1
        have s1 := set_blk (o := off + j * 2) q1 (.int .i64 (k + 2 * (j : Int)))
        have hcell1 : (wr.setCell ⟨b, off + j * 2, none⟩ (.int .i64 (k + 2 * (j : Int)))).cell? ⟨b, off + j * 2 + 1, none⟩ = some v1 := (cell_blk (o := off + j * 2 + 1) s1).trans (by rw [Array.getElem?_setIfInBounds_ne (by omega)]; exact hv1)
        have hfr1 := frozen_blk (o := off + j * 2 + 1) s1
        have hji : (j : Int) < n := by omega
        have hw1 : IntKind.i64.wrap (k + 2 * (j : Int) + 1) = k + 2 * (j : Int) + 1 := wrap_in (by omega)
        have hw2 : IntKind.i64.wrap (k + 2 * (j : Int) + 1 + 1) = k + 2 * (j : Int) + 1 + 1 := wrap_in (by omega)
        have Q := Lib.hid (And.intro s1 (And.intro q2 q3))
        have HIN := Lib.hid hin
        clear q1 q2 q3 hv0 hv1 hin s1
        go_wp2_with fail
        have t1 := set_blk (o := off + j * 2 + 1) Q.out.1 (.int .i64 (k + 2 * (j : Int) + 1))
        have u := (upd_set1 wr b (off + j * 2) (.int .i64 (k + 2 * (j : Int)))).trans (upd_set1 _ b (off + j * 2 + 1) (.int .i64 (k + 2 * (j : Int) + 1)))
        go_roundw
        case rel => exact ⟨j + 1, by omega, by go_num, int_eq (by omega), ⟨_, t1, by simpa using Q.out.2.1, fun q hq => by
          by_cases hqj : q = j
          · subst hqj
            exact ⟨by rw [Array.getElem?_setIfInBounds_ne (by omega), Array.getElem?_setIfInBounds_self_of_lt (by have := HIN.out; omega)], by rw [Array.getElem?_setIfInBounds_self_of_lt (by simpa using HIN.out)]⟩
          · exact ⟨by rw [Array.getElem?_setIfInBounds_ne (by omega), Array.getElem?_setIfInBounds_ne (by omega)]; exact (Q.out.2.2 q (by omega)).1, by rw [Array.getElem?_setIfInBounds_ne (by omega), Array.getElem?_setIfInBounds_ne (by omega)]; exact (Q.out.2.2 q (by omega)).2⟩⟩, HU.out.1.trans u, by simpa [World.setCell] using HU.out.2⟩
        case measure => simp [intOf]; omega
      · have hje : j = n := by omega
        subst hje
        go_wp2_with fail
        go_ret
        obtain ⟨c', q1, q2, q3⟩ := HR.out
        obtain ⟨h1, h2⟩ := HLH.out
        exact ⟨rfl, ⟨⟨fun _ => ⟨b, off, rfl, h1, h2, fun q hq => by rw [upH_length] at hq; rw [upH_get hq, cell_blk q1, cell_blk q1]; exact q3 q hq⟩, by rw [upH_length]; omega⟩, fun _ b' off' ha => by
          simp only [Option.some.injEq, Addr.mk.injEq] at ha
          obtain ⟨rfl, _, _⟩ := ha
          exact ⟨c', q1⟩⟩, HU.out.1.weak (by omega) (by omega), HU.out.2⟩
set_option maxHeartbeats 1000000 in
theorem heldHitS_any (w : World) (lo hi : Nat) (a : Option Addr) (cap n : Nat) (k : Int) (h : Hits w lo hi a (upH k n)) (hl : n ≤ 1048576) (k0 : 0 ≤ k) (k1 : k ≤ 1152921504606846976) :
    Calls Try.prog 27 #[.slice a n cap, .int .i64 k] w fun e w' => e = .returned (.int .i64 (k + 2 * (n : Int))) ∧ w = w' := by
  go_enter Try.func27, Try.ntmps27
  go_wp2_with fail
  go_loop [1, 5] (fun v i => ∃ j : Nat, j ≤ n ∧ i = .int .i64 (j : Int) ∧ v = .int .i64 (k + 2 * (j : Int))) (fun _ i => n - (intOf i).toNat)
  case atStart => exact ⟨0, Nat.zero_le _, rfl, by simp⟩
  case round =>
    obtain ⟨j, hj, rfl, rfl⟩ := hrel
    by_cases hlt : j < n
    · obtain ⟨b, off, rfl, _, _, hc, hd⟩ := h.at_ (k := j) (by rw [upH_length]; exact hlt)
      rw [upH_get hlt] at hc hd
      have hji : (j : Int) < n := by omega
      have hw1 : IntKind.i64.wrap (k + 2 * (j : Int) + 1) = k + 2 * (j : Int) + 1 := wrap_in (by omega)
      have hw2 : IntKind.i64.wrap (k + 2 * (j : Int) + 1 + 1) = k + 2 * (j : Int) + 1 + 1 := wrap_in (by omega)
      go_wp2_with fail
      go_round
      case rel => exact ⟨j + 1, by omega, by go_num, int_eq (by omega)⟩
      case measure => simp [intOf]; omega
    · have hje : j = n := by omega
      subst hje
      go_wp2_with fail
      go_ret
      exact ⟨rfl, rfl⟩
end Go.Proofs.Ytllahaebfhaobaa
