/-
  The walks by which the exact laws mark memory and look whether the marks hold.
-/
import Derived.Test.YtllahaebfhaobaaExactWalks
import Derived.Test.YtllahaebfhaobaaDistWalks
namespace Go.Proofs.Ytllahaebfhaobaa
open Go.RowKit
set_option linter.unusedVariables false

/-- the numbers k, k + 1, .. -/
def upL (k : Int) (n : Nat) : List Int := (List.range n).map fun (j : Nat) => k + (j : Int)
theorem upL_length (k : Int) (n : Nat) : (upL k n).length = n := by unfold upL; simp
theorem upL_get {k : Int} {n j : Nat} (hj : j < n) : (upL k n).getD j 0 = k + (j : Int) := by
  unfold upL
  rw [List.getD_eq_getElem?_getD, List.getElem?_map, List.getElem?_range hj]
  rfl
theorem upL_ok {k : Int} {n : Nat} (h0 : 0 ≤ k) (h1 : k ≤ 4611686018427387904) (hn : n ≤ 4611686018427387904) : ∀ x ∈ upL k n, -9223372036854775808 ≤ x ∧ x ≤ 9223372036854775807 := fun x hx => by
  unfold upL at hx
  obtain ⟨j, hj, rfl⟩ := List.mem_map.1 hx
  have := List.mem_range.1 hj
  omega
theorem cell_blk {w : World} {b o : Nat} {c : Array Value} {t : TypeId} {fr : Nat × Nat} (h : w.heap[b]? = some (.cells c t fr)) : w.cell? ⟨b, o, none⟩ = c[o]? := by
  unfold World.cell?
  rw [h]
  simp
theorem frozen_blk {w : World} {b o : Nat} {c : Array Value} {t : TypeId} (h : w.heap[b]? = some (.cells c t (0, 0))) : w.frozen? ⟨b, o, none⟩ = false := by
  unfold World.frozen?
  rw [h]
  simp
theorem set_blk {w : World} {b o : Nat} {c : Array Value} {t : TypeId} (h : w.heap[b]? = some (.cells c t (0, 0))) (u : Value) : (w.setCell ⟨b, o, none⟩ u).heap[b]? = some (.cells (c.setIfInBounds o u) t (0, 0)) := by
  simp [World.setCell, Array.getElem?_modify, h]
theorem upd_set1 (w : World) (B o : Nat) (u : Value) : Upd B (B + 1) w (w.setCell ⟨B, o, none⟩ u) := Upd.setCell w ⟨B, o, none⟩ u (Nat.le_refl _) (Nat.lt_succ_self _)
def MarkPost (w : World) (lo hi : Nat) (a : Option Addr) (n : Nat) (k : Int) (e : Ending) (w' : World) : Prop :=
  e = .returned (.int .i64 (k + (n : Int))) ∧ Ints w' lo hi a (upL k n) ∧ IntBlk w' a (upL k n) ∧ Upd lo hi w w' ∧ w'.heap.size = w.heap.size

set_option maxHeartbeats 1000000 in
theorem markIntS_any (w : World) (lo hi : Nat) (a : Option Addr) (cap : Nat) (l : List Int) (k : Int) (h : Ints w lo hi a l) (hb : IntBlk w a l) (hl : l.length ≤ 1099511627776) (k0 : 0 ≤ k) (k1 : k ≤ 2305843009213693952) :
    Calls Try.prog 25 #[.slice a l.length cap, .int .i64 k] w (MarkPost w lo hi a l.length k) := by
  by_cases h0 : l = []
  · subst h0
    show Calls Try.prog 25 #[.slice a 0 cap, .int .i64 k] w (MarkPost w lo hi a 0 k)
    clear h hb hl
    go_enter Try.func25, Try.ntmps25
    go_wp2_with fail
    go_loopw [1, 5] (fun v i wr => v = .int .i64 k ∧ i = .int .i64 0 ∧ wr = w) (fun _ i _ => 0)
    case atStart => exact ⟨rfl, rfl, rfl⟩
    case round =>
      obtain ⟨rfl, rfl, rfl⟩ := hrel
      go_wp2_with fail
      go_ret
      exact ⟨ret_int (by simp), Ints.nil _ _ _ _, fun h => absurd rfl h, Upd.refl _ _ _, rfl⟩
  · obtain ⟨b, off, rfl, hlo, hhi, hcells⟩ := h.cells h0
    obtain ⟨c, hc⟩ := hb h0 b off rfl
    have hsz : ∀ j, j < l.length → off + j < c.size := fun j hj => by
      have := hcells j hj
      rw [cell_blk hc] at this
      exact (Array.getElem?_eq_some_iff.1 this).1
    have HSZ := Lib.hid hsz
    have HC := Lib.hid hc
    have HLH := Lib.hid (And.intro hlo hhi)
    have HOK := Lib.hid (upL_ok (n := l.length) k0 (by omega) (by omega))
    have hn0 : 0 < l.length := by
      rcases Nat.eq_zero_or_pos l.length with h | h
      · exact absurd (List.eq_nil_of_length_eq_zero h) h0
      · exact h
    clear hsz hc hcells hb h hlo hhi h0
    obtain ⟨n, hn⟩ : ∃ n, l.length = n := ⟨_, rfl⟩
    rw [hn] at hl HSZ HOK hn0 ⊢
    clear hn
    go_enter Try.func25, Try.ntmps25
    go_wp2_with fail
    go_loopw [1, 5] (fun v i wr => ∃ j : Nat, j ≤ n ∧ i = .int .i64 (j : Int) ∧ v = .int .i64 (k + (j : Int)) ∧ Hid (∃ c', wr.heap[b]? = some (.cells c' 3 (0, 0)) ∧ c'.size = c.size ∧ ∀ q, q < j → c'[off + q]? = some (.int .i64 (k + (q : Int)))) ∧ Hid (Upd b (b + 1) w wr ∧ wr.heap.size = w.heap.size)) (fun _ i _ => n - (intOf i).toNat)
    case atStart => exact ⟨0, Nat.zero_le _, rfl, by simp, ⟨c, HC.out, rfl, fun q hq => by omega⟩, Upd.refl _ _ _, rfl⟩
    case round =>
      obtain ⟨j, hj, rfl, rfl, HR, HU⟩ := hrel
      by_cases hlt : j < n
      · obtain ⟨c', q1, q2, q3⟩ := HR.out
        have hin : off + j < c'.size := by rw [q2]; exact HSZ.out j hlt
        obtain ⟨v0, hv0⟩ : ∃ v0, c'[off + j]? = some v0 := ⟨_, Array.getElem?_eq_getElem hin⟩
        have hcell := (cell_blk (o := off + j) q1).trans hv0
        have hfr := frozen_blk (o := off + j) q1
        have hji : (j : Int) < n := by omega
        have Q := Lib.hid (And.intro q1 (And.intro q2 q3))
        have HIN := Lib.hid hin
        clear q1 q2 q3 hv0 hin
        go_wp2_with fail
        have q1 := set_blk (o := off + j) Q.out.1 (.int .i64 (k + (j : Int)))
        have u := upd_set1 wr b (off + j) (.int .i64 (k + (j : Int)))
        go_roundw
        case rel => exact ⟨j + 1, by omega, by go_num, int_eq (by omega), ⟨_, q1, by simpa using Q.out.2.1, fun q hq => by
          by_cases hqj : q = j
          · subst hqj; rw [Array.getElem?_setIfInBounds_self_of_lt HIN.out]
          · rw [Array.getElem?_setIfInBounds_ne (by omega)]; exact Q.out.2.2 q (by omega)⟩, HU.out.1.trans u, by rw [show (wr.setCell ⟨b, off + j, none⟩ (.int .i64 (k + (j : Int)))).heap.size = wr.heap.size by simp [World.setCell]]; exact HU.out.2⟩
        case measure => simp [intOf]; omega
      · have hje : j = n := by omega
        subst hje
        go_wp2_with fail
        go_ret
        obtain ⟨c', q1, q2, q3⟩ := HR.out
        obtain ⟨h1, h2⟩ := HLH.out
        exact ⟨rfl, ⟨fun _ => ⟨b, off, rfl, h1, h2, fun q hq => by rw [upL_length] at hq; rw [upL_get hq, cell_blk q1]; exact q3 q hq⟩, by rw [upL_length]; omega, HOK.out⟩, fun _ b' off' ha => by
          simp only [Option.some.injEq, Addr.mk.injEq] at ha
          obtain ⟨rfl, _, _⟩ := ha
          exact ⟨c', q1⟩, HU.out.1.weak (by omega) (by omega), HU.out.2⟩

/-- a slice of ints of the call's own, as its caller marks it -/
theorem owns_mark {w : World} {lo n cap : Nat} {a : Option Addr} {l : List Int} (h : w.ownsRow lo 3 1 (.slice a n cap) l.length (l.map (Value.int .i64))) (hok : ∀ x ∈ l, -9223372036854775808 ≤ x ∧ x ≤ 9223372036854775807) (hl : l.length ≤ 9223372036854775807) : n = l.length ∧ Ints w lo w.heap.size a l ∧ IntBlk w a l := by
  obtain ⟨a', c', hv, hi⟩ := ints_of_owns h hok hl
  simp only [Value.slice.injEq] at hv
  obtain ⟨rfl, hn, rfl⟩ := hv
  exact ⟨hn, hi, intBlk_of_owns h⟩
end Go.Proofs.Ytllahaebfhaobaa
