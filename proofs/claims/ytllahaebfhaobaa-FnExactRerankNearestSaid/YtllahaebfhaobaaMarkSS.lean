/-
  Copies of slices of slices, and how they are marked.
-/
import Derived.Test.YtllahaebfhaobaaMarkWalks
namespace Go.Proofs.Ytllahaebfhaobaa
open Go.RowKit
set_option linter.unusedVariables false

theorem LensLe.mono {ll : List (List Int)} {a b : Int} (h : LensLe ll a) (hab : a ≤ b) : LensLe ll b := ⟨by have := h.1; omega, fun j hj => by have := h.2 j hj; omega⟩
/-- a copy of a slice of slices whose blocks lie in lo .. hi-1 -/
def SSIn (w : World) (lo hi B : Nat) (bs : Nat → Nat) (ll : List (List Int)) : Prop := SSAt w B bs ll ∧ lo ≤ B ∧ B < hi ∧ ∀ j, j < ll.length → bs j < hi
theorem SSIn.of_at {w : World} {B : Nat} {bs : Nat → Nat} {ll : List (List Int)} (h : SSAt w B bs ll) : SSIn w B w.heap.size B bs ll :=
  ⟨h, Nat.le_refl _, (Array.getElem?_eq_some_iff.1 h.1).1, fun j hj => (Array.getElem?_eq_some_iff.1 (h.2.1 j hj).2).1⟩
theorem SSIn.upd {w w' : World} {lo hi lo' hi' B : Nat} {bs : Nat → Nat} {ll : List (List Int)} (h : SSIn w lo hi B bs ll) (u : Upd lo' hi' w w') (hd : hi ≤ lo' ∨ hi' ≤ lo) : SSIn w' lo hi B bs ll := by
  obtain ⟨⟨h1, h2, h3, h4, h5⟩, k1, k2, k3⟩ := h
  refine ⟨⟨?_, fun j hj => ⟨(h2 j hj).1, (h2 j hj).2.upd u ?_⟩, h3, h4, h5⟩, k1, k2, k3⟩
  · rw [u.block B (Array.getElem?_eq_some_iff.1 h1).1 (by omega)]
    exact h1
  · have := (h2 j hj).1
    have := k3 j hj
    omega
theorem SSIn.below {w w' : World} {lo hi B : Nat} {bs : Nat → Nat} {ll : List (List Int)} (h : SSIn w lo hi B bs ll) (u : Below w.heap.size w w') : SSIn w' lo hi B bs ll :=
  ⟨h.1.below u, h.2⟩
theorem SSIn.drawn {w w' : World} {lo hi B : Nat} {bs : Nat → Nat} {ll : List (List Int)} (h : SSIn w lo hi B bs ll) (u : Drawn w w') : SSIn w' lo hi B bs ll :=
  ⟨h.1.below u.below, h.2⟩
theorem SSIn.lists {w : World} {lo hi B : Nat} {bs : Nat → Nat} {ll : List (List Int)} (h : SSIn w lo hi B bs ll) : Lists w 0 w.heap.size (some ⟨B, 0, none⟩) ll := h.1.lists.wide (Nat.zero_le _) (Nat.le_refl _)

def MarkSSPost (w : World) (lo hi : Nat) (k : Int) (e : Ending) (w' : World) : Prop :=
  ∃ k' : Int, e = .returned (.int .i64 k') ∧ 0 ≤ k' ∧ k' ≤ k + 1099511627776 ∧ Upd lo hi w w' ∧ w'.heap.size = w.heap.size
set_option maxHeartbeats 1000000 in
theorem markIntSS_any (w : World) (lo hi B : Nat) (bs : Nat → Nat) (ll : List (List Int)) (k : Int) (h : SSIn w lo hi B bs ll) (k0 : 0 ≤ k) (k1 : k ≤ 1152921504606846976) :
    Calls Try.prog 59 #[.slice (some ⟨B, 0, none⟩) ll.length ll.length, .int .i64 k] w (MarkSSPost w lo hi k) := by
  have hlen := h.1.2.2.2.2
  have HR := Lib.hid h.1.2.2.2.1
  have HBK := Lib.hid h.2
  have HS := Lib.hid h
  go_enter Try.func59, Try.ntmps59
  go_wp2_with fail
  clear h
  go_loopw [1, 5] (fun v i wr => ∃ (j : Nat) (k' : Int), j ≤ ll.length ∧ i = .int .i64 (j : Int) ∧ v = .int .i64 k' ∧ 0 ≤ k' ∧ k' ≤ k + 1048576 * (j : Int) ∧ Hid (Upd lo hi w wr ∧ wr.heap.size = w.heap.size) ∧ Hid (wr.heap[B]? = w.heap[B]? ∧ ∀ q, j ≤ q → q < ll.length → wr.heap[bs q]? = w.heap[bs q]?)) (fun _ i _ => ll.length - (intOf i).toNat)
  case atStart => exact ⟨0, k, Nat.zero_le _, rfl, rfl, k0, by omega, ⟨Upd.refl _ _ _, rfl⟩, rfl, fun _ _ _ => rfl⟩
  case round =>
    obtain ⟨j, k', hj, rfl, rfl, k2, k3, HU, HH⟩ := hrel
    by_cases hlt : j < ll.length
    · have hB := HS.out.1.1
      have hblk : IntsBlk wr (bs j) (ll.getD j []) := by
        unfold IntsBlk
        rw [HH.out.2 j (Nat.le_refl _) hlt]
        exact (HS.out.1.2.1 j hlt).2
      have hc : wr.cell? ⟨B, j, none⟩ = some (.slice (some ⟨bs j, 0, none⟩) (ll.getD j []).length (ll.getD j []).length) := by
        rw [cell_blk (HH.out.1.trans hB)]
        simp [hlt]
      have hr := HR.out j hlt
      have hbl := (HS.out.1.2.1 j hlt).1
      have hi' := hblk.ints hr.2 (by omega) (show lo ≤ bs j by have := HBK.out.1; omega) (HBK.out.2.2 j hlt)
      have M := Lib.hid (markIntS_any wr (bs j) (bs j + 1) _ (ll.getD j []).length (ll.getD j []) k' (hblk.ints hr.2 (by omega) (Nat.le_refl _) (Nat.lt_succ_self _)) (fun _ b' off' ha => by
        simp only [Option.some.injEq, Addr.mk.injEq] at ha
        obtain ⟨rfl, _, _⟩ := ha
        exact ⟨_, hblk⟩) (by omega) k2 (by omega))
      have hle := hr.1
      obtain ⟨n, hn⟩ : ∃ n, (ll.getD j []).length = n := ⟨_, rfl⟩
      rw [hn] at hc M hle
      have hji : (j : Int) < ll.length := by omega
      have HBL := Lib.hid hbl
      clear hB hblk hr hi' hn
      go_wp2_with fail
      refine M.out.mono ?_
      rintro e w2 ⟨rfl, _, _, hu2, hs2⟩
      have HU2 := Lib.hid (And.intro hu2 hs2)
      clear hu2 hs2 hc
      go_wp2_with fail
      go_roundw
      case rel =>
        have hx := HBK.out.2.2 j hlt
        have hlo := HBK.out.1
        refine ⟨j + 1, k' + n, by omega, by go_num, rfl, by omega, by omega, ⟨HU.out.1.trans (HU2.out.1.weak (by have := HBL.out; omega) (by omega)), HU2.out.2.trans HU.out.2⟩, ?_, fun q hq hql => ?_⟩
        · rw [HU2.out.1.block B (by rw [HU.out.2]; exact (Array.getElem?_eq_some_iff.1 HS.out.1.1).1) (by have := HBL.out; omega)]
          exact HH.out.1
        · have hm := HS.out.1.2.2.1 j q (by omega) hql
          rw [HU2.out.1.block (bs q) (by rw [HU.out.2]; exact (Array.getElem?_eq_some_iff.1 (HS.out.1.2.1 q hql).2).1) (by omega)]
          exact HH.out.2 q (by omega) hql
      case measure => simp [intOf]; omega
    · have hje : j = ll.length := by omega
      subst hje
      go_wp2_with fail
      go_ret
      exact ⟨k', rfl, k2, by omega, HU.out⟩
/-- a copy of a slice of ints whose block lies in lo .. hi-1 -/
def IntsIn (w : World) (lo hi B : Nat) (l : List Int) : Prop := IntsBlk w B l ∧ lo ≤ B ∧ B < hi ∧ (∀ x ∈ l, -9223372036854775808 ≤ x ∧ x ≤ 9223372036854775807) ∧ l.length ≤ 1048576
theorem IntsIn.mk {w w' : World} {lo hi B : Nat} {a : Option Addr} {l : List Int} (h : IntsBlk w B l) (hi' : Ints w' lo hi a l) (hl : l.length ≤ 1048576) : IntsIn w B w.heap.size B l :=
  ⟨h, Nat.le_refl _, (Array.getElem?_eq_some_iff.1 h).1, hi'.ok, hl⟩
theorem IntsIn.upd {w w' : World} {lo hi lo' hi' B : Nat} {l : List Int} (h : IntsIn w lo hi B l) (u : Upd lo' hi' w w') (hd : hi ≤ lo' ∨ hi' ≤ lo) : IntsIn w' lo hi B l :=
  ⟨h.1.upd u (by have := h.2.1; have := h.2.2.1; omega), h.2⟩
theorem IntsIn.below {w w' : World} {lo hi B : Nat} {l : List Int} (h : IntsIn w lo hi B l) (u : Below w.heap.size w w') : IntsIn w' lo hi B l :=
  ⟨h.1.upd (Upd.of_below (lo := w.heap.size) (hi := 0) u) (.inl (Array.getElem?_eq_some_iff.1 h.1).1), h.2⟩
theorem IntsIn.drawn {w w' : World} {lo hi B : Nat} {l : List Int} (h : IntsIn w lo hi B l) (u : Drawn w w') : IntsIn w' lo hi B l := h.below u.below
theorem IntsIn.ints {w : World} {lo hi B : Nat} {l : List Int} (h : IntsIn w lo hi B l) : Ints w 0 w.heap.size (some ⟨B, 0, none⟩) l := h.1.ints h.2.2.2.1 (by have := h.2.2.2.2; omega) (Nat.zero_le _) (Array.getElem?_eq_some_iff.1 h.1).1
theorem IntsIn.tight {w : World} {lo hi B : Nat} {l : List Int} (h : IntsIn w lo hi B l) : Ints w lo hi (some ⟨B, 0, none⟩) l := h.1.ints h.2.2.2.1 (by have := h.2.2.2.2; omega) h.2.1 h.2.2.1
theorem IntsIn.blk {w : World} {lo hi B : Nat} {l : List Int} (h : IntsIn w lo hi B l) : IntBlk w (some ⟨B, 0, none⟩) l := fun _ b off ha => by
  simp only [Option.some.injEq, Addr.mk.injEq] at ha
  obtain ⟨rfl, _, _⟩ := ha
  exact ⟨_, h.1⟩
/-- a slice of ints of the call's own, to be marked -/
def IntsO (w : World) (lo hi : Nat) (a : Option Addr) (l : List Int) : Prop := Ints w lo hi a l ∧ IntBlk w a l
theorem IntsO.upd {w w' : World} {lo hi lo' hi' : Nat} {a : Option Addr} {l : List Int} (h : IntsO w lo hi a l) (u : Upd lo' hi' w w') (hd : hi ≤ lo' ∨ hi' ≤ lo) : IntsO w' lo hi a l :=
  ⟨h.1.upd u (by omega), IntBlk.upd (lo' := 0) (hi' := 0) h.2 h.1 u (by omega)⟩
theorem IntsO.below {w w' : World} {lo hi : Nat} {a : Option Addr} {l : List Int} (h : IntsO w lo hi a l) (u : Below w.heap.size w w') : IntsO w' lo hi a l :=
  ⟨h.1.below u, IntBlk.upd (lo' := 0) (hi' := 0) h.2 h.1 (Upd.of_below (lo := 0) (hi := 0) u) (by omega)⟩
theorem IntsO.drawn {w w' : World} {lo hi : Nat} {a : Option Addr} {l : List Int} (h : IntsO w lo hi a l) (u : Drawn w w') : IntsO w' lo hi a l := h.below u.below
/-- a slice of ints of the call's own -/
def NewInts (w : World) (l : List Int) (e : Ending) (w' : World) : Prop :=
  ∃ a cap, e = .returned (.slice a l.length cap) ∧ w'.ownsRow w.heap.size 3 1 (.slice a l.length cap) l.length (l.map (Value.int .i64)) ∧ Below w.heap.size w w'
theorem NewInts.nil {w w' : World} (h : Below w.heap.size w w') : NewInts w [] (.returned (.slice none 0 0)) w' := ⟨none, 0, rfl, ⟨rfl, .inl ⟨rfl, rfl⟩⟩, h⟩
theorem size_drawn {w w' : World} (h : Drawn w w') : w.heap.size ≤ w'.heap.size := by rw [h.heap]; exact Nat.le_refl _
end Go.Proofs.Ytllahaebfhaobaa
