/-
  Slices of hits that read as lists of hits: two cells a hit. Worlds that differ by draws and by new blocks behind.
-/
import Derived.Test.YtlammenejgagdaaHitPlain
import Derived.Test.YtlammenejgagdaaOwn
import Derived.Test.YtlammenejgagdaaItems
import Derived.Sort.Grow
namespace Go.Proofs.Ytlammenejgagdaa
open Go.RowKit
set_option linter.unusedVariables false

theorem infoHit : (Try.prog.info? 52).map (fun i => (i.zero, i.size, i.bytes)) = some (some (.agg #[.int .i64 0, .int .i64 0]), 2, 16) := by kernel_rfl
/-- the cells of a hit -/
def htCells (x : Ht) : List Value := [.int .i64 x.key, .int .i64 x.dist]
/-- a hit as a value -/
def htV (x : Ht) : Value := .agg #[.int .i64 x.key, .int .i64 x.dist]
/-- the cells of hits -/
def flatH (l : List Ht) : List Value := l.flatMap htCells
theorem flatH_app (l m : List Ht) : flatH (l ++ m) = flatH l ++ flatH m := by unfold flatH; rw [List.flatMap_append]
theorem flatH_one (x : Ht) : flatH [x] = htCells x := by simp [flatH]
theorem flatH_nil : flatH [] = [] := rfl
theorem flatH_cons (x : Ht) (l : List Ht) : flatH (x :: l) = .int .i64 x.key :: .int .i64 x.dist :: flatH l := by simp [flatH, htCells]
theorem flatH_length (l : List Ht) : (flatH l).length = l.length * 2 := by
  induction l with
  | nil => rfl
  | cons x l ih => rw [flatH_cons]; simp [ih]; omega
theorem flatH_cells (l : List Ht) : ∀ u ∈ flatH l, u.oneCell' = true := by
  induction l with
  | nil => intro u hu; cases hu
  | cons x l ih =>
    rw [flatH_cons]
    intro u hu
    rcases List.mem_cons.1 hu with rfl | hu
    · rfl
    · rcases List.mem_cons.1 hu with rfl | hu
      · rfl
      · exact ih u hu
theorem htCells_one (x : Ht) : ∀ u ∈ htCells x, u.oneCell' = true := by rw [← flatH_one]; exact flatH_cells _
theorem flatH_0 {l : List Ht} : ∀ {j : Nat}, j < l.length → (flatH l)[j * 2]? = some (.int .i64 (l.getD j Ht.no).key) := by
  induction l with
  | nil => intro j hj; simp at hj
  | cons x l ih =>
    intro j hj
    rw [flatH_cons]
    cases j with
    | zero => rfl
    | succ j =>
      rw [show (j + 1) * 2 = j * 2 + 1 + 1 by omega, List.getElem?_cons_succ, List.getElem?_cons_succ, ih (by simpa using hj)]
      rfl
theorem flatH_1 {l : List Ht} : ∀ {j : Nat}, j < l.length → (flatH l)[j * 2 + 1]? = some (.int .i64 (l.getD j Ht.no).dist) := by
  induction l with
  | nil => intro j hj; simp at hj
  | cons x l ih =>
    intro j hj
    rw [flatH_cons]
    cases j with
    | zero => rfl
    | succ j =>
      rw [show (j + 1) * 2 + 1 = (j * 2 + 1) + 1 + 1 by omega, List.getElem?_cons_succ, List.getElem?_cons_succ, ih (by simpa using hj)]
      rfl
theorem flatH_set {l : List Ht} (x : Ht) : ∀ {j : Nat}, j < l.length → ((flatH l).set (j * 2) (.int .i64 x.key)).set (j * 2 + 1) (.int .i64 x.dist) = flatH (l.set j x) := by
  induction l with
  | nil => intro j hj; simp at hj
  | cons y l ih =>
    intro j hj
    cases j with
    | zero => rw [List.set_cons_zero, flatH_cons, flatH_cons]; rfl
    | succ j =>
      rw [List.set_cons_succ, flatH_cons, flatH_cons, ← ih (by simpa using hj), show (j + 1) * 2 + 1 = (j * 2 + 1) + 1 + 1 by omega, show (j + 1) * 2 = j * 2 + 1 + 1 by omega]
      rfl
theorem flatH_take (l : List Ht) : ∀ k, (flatH l).take (k * 2) = flatH (l.take k) := by
  induction l with
  | nil => intro k; simp [flatH]
  | cons x l ih =>
    intro k
    cases k with
    | zero => simp [flatH]
    | succ k => rw [List.take_succ_cons, flatH_cons, flatH_cons, ← ih k, show (k + 1) * 2 = k * 2 + 1 + 1 by omega]; rfl
/-- The slice value '.slice a l.length cap' reads as l; its cells lie in the blocks lo .. hi-1. -/
structure Hits (w : World) (lo hi : Nat) (a : Option Addr) (l : List Ht) : Prop where
  cells : l ≠ [] → ∃ b off, a = some ⟨b, off, none⟩ ∧ lo ≤ b ∧ b < hi ∧ ∀ j, j < l.length → w.cell? ⟨b, off + j * 2, none⟩ = some (.int .i64 (l.getD j Ht.no).key) ∧ w.cell? ⟨b, off + j * 2 + 1, none⟩ = some (.int .i64 (l.getD j Ht.no).dist)
  len : l.length ≤ 9223372036854775807
namespace Hits
variable {w w' : World} {lo hi lo' hi' : Nat} {a : Option Addr} {l : List Ht}
theorem nil (w : World) (lo hi : Nat) (a : Option Addr) : Hits w lo hi a [] := ⟨fun h => absurd rfl h, by simp⟩
theorem at_ (h : Hits w lo hi a l) {k : Nat} (hk : k < l.length) : ∃ b off, a = some ⟨b, off, none⟩ ∧ lo ≤ b ∧ b < hi ∧ w.cell? ⟨b, off + k * 2, none⟩ = some (.int .i64 (l.getD k Ht.no).key) ∧ w.cell? ⟨b, off + k * 2 + 1, none⟩ = some (.int .i64 (l.getD k Ht.no).dist) := by
  obtain ⟨b, off, ha, h1, h2, h3⟩ := h.cells (by intro e; subst e; simp at hk)
  exact ⟨b, off, ha, h1, h2, h3 k hk⟩
theorem upd (h : Hits w lo hi a l) (u : Upd lo' hi' w w') (hd : hi ≤ lo' ∨ hi' ≤ lo ∨ hi' ≤ lo') : Hits w' lo hi a l := by
  refine ⟨fun hne => ?_, h.len⟩
  obtain ⟨b, off, ha, h1, h2, h3⟩ := h.cells hne
  exact ⟨b, off, ha, h1, h2, fun j hj => ⟨u.cell (h3 j hj).1 (by show b < lo' ∨ hi' ≤ b; omega), u.cell (h3 j hj).2 (by show b < lo' ∨ hi' ≤ b; omega)⟩⟩
theorem below (h : Hits w lo hi a l) (u : Below w.heap.size w w') : Hits w' lo hi a l := h.upd (Upd.of_below (lo := 0) (hi := 0) u) (by omega)
theorem drawn (h : Hits w lo hi a l) (d : Drawn w w') : Hits w' lo hi a l := h.upd (d.upd (lo := 0) (hi := 0)) (by omega)
theorem wide (h : Hits w lo hi a l) (h1 : lo' ≤ lo) (h2 : hi ≤ hi') : Hits w lo' hi' a l := by
  refine ⟨fun hne => ?_, h.len⟩
  obtain ⟨b, off, ha, k1, k2, k3⟩ := h.cells hne
  exact ⟨b, off, ha, by omega, by omega, k3⟩
theorem take (h : Hits w lo hi a l) (k : Nat) : Hits w lo hi a (l.take k) := by
  refine ⟨fun hne => ?_, by have := h.len; simp; omega⟩
  obtain ⟨b, off, ha, k1, k2, k3⟩ := h.cells (by rintro rfl; simp at hne)
  refine ⟨b, off, ha, k1, k2, fun j hj => ?_⟩
  have hj' : j < l.length ∧ j < k := by simp at hj; omega
  have e : (l.take k).getD j Ht.no = l.getD j Ht.no := by rw [List.getD_eq_getElem?_getD, List.getD_eq_getElem?_getD, List.getElem?_take_of_lt hj'.2]
  rw [e]
  exact k3 j hj'.1
/-- the cells, as a list of values -/
theorem vals {b off : Nat} (h : Hits w lo hi (some ⟨b, off, none⟩) l) : ∀ j u, (flatH l)[j]? = some u → w.cell? ((⟨b, off, none⟩ : Addr).add j) = some u := by
  intro j u hu
  have hj : j < l.length * 2 := by
    have := (List.getElem?_eq_some_iff.1 hu).1
    rwa [flatH_length] at this
  have hq : j / 2 < l.length := by omega
  obtain ⟨b', off', ha, _, _, c0, c1⟩ := h.at_ hq
  simp only [Option.some.injEq, Addr.mk.injEq] at ha
  obtain ⟨rfl, rfl, _⟩ := ha
  rw [add_none]
  rcases Nat.mod_two_eq_zero_or_one j with hm | hm
  · have e : j = j / 2 * 2 := by omega
    rw [e, flatH_0 hq] at hu
    rw [e, show off + j / 2 * 2 / 2 * 2 = off + j / 2 * 2 by omega] at *
    rw [c0, hu]
  · have e : j = j / 2 * 2 + 1 := by omega
    rw [e, flatH_1 hq] at hu
    rw [e, ← Nat.add_assoc, c1, hu]
end Hits
/-- hits of the call's own read as a list -/
theorem hits_of_owns {w : World} {base : Nat} {v : Value} {n : Nat} {l : List Ht} (h : w.ownsRow base 52 2 v n (flatH l)) (hlen : n ≤ 9223372036854775807) :
    ∃ a cap, v = .slice a l.length cap ∧ Hits w base w.heap.size a l ∧ Cap l.length cap := by
  have hn : l.length = n := by have := h.1; rw [flatH_length] at this; omega
  subst hn
  obtain ⟨a, cap, rfl, hc⟩ := owns_form h
  refine ⟨a, cap, rfl, ⟨fun hne => ?_, hlen⟩, hc⟩
  have h1 : 1 ≤ l.length := List.length_pos_iff.2 hne
  rcases h.2 with ⟨hv, h0⟩ | ⟨g, cap', cur, hv, hb, hg, _⟩
  · omega
  · simp only [Value.slice.injEq] at hv
    obtain ⟨rfl, _, rfl⟩ := hv
    refine ⟨g, 0, rfl, hb, (Array.getElem?_eq_some_iff.1 hg).1, fun j hj => ⟨?_, ?_⟩⟩
    · have h5 := h.cellAt (j * 2) (by omega)
      rw [Nat.zero_add, h5, flatH_0 hj]
    · have h5 := h.cellAt (j * 2 + 1) (by omega)
      rw [Nat.zero_add, h5, flatH_1 hj]
/-- two cells of a new block -/
theorem cells2_new (w : World) (x y : Value) (t : TypeId) : (w.alloc (.cells #[x, y] t)).cell? ⟨w.heap.size, 0, none⟩ = some x ∧ (w.alloc (.cells #[x, y] t)).cell? ⟨w.heap.size, 1, none⟩ = some y :=
  ⟨cell_new w _ t 0, cell_new w _ t 1⟩
/-- the block behind hits of the call's own -/
def HitBlk (w : World) (a : Option Addr) (l : List Ht) : Prop := l ≠ [] → ∀ b off, a = some ⟨b, off, none⟩ → ∃ c, w.heap[b]? = some (.cells c 52 (0, 0))
theorem HitBlk.upd {w w' : World} {a : Option Addr} {l : List Ht} {lo hi lo' hi' : Nat} (h : HitBlk w a l) (hi' : Hits w lo hi a l) {lo2 hi2 : Nat} (u : Upd lo2 hi2 w w') (hd : hi ≤ lo2 ∨ hi2 ≤ lo ∨ hi2 ≤ lo2) : HitBlk w' a l := fun hne b off ha => by
  obtain ⟨c, hc⟩ := h hne b off ha
  obtain ⟨b', off', ha', h1, h2, _⟩ := hi'.cells hne
  rw [ha] at ha'
  simp only [Option.some.injEq, Addr.mk.injEq] at ha'
  obtain ⟨rfl, _, _⟩ := ha'
  exact ⟨c, by rw [u.block b (Array.getElem?_eq_some_iff.1 hc).1 (by omega)]; exact hc⟩
/-- hits in blocks of the call's own -/
def HitsO (w : World) (lo hi : Nat) (a : Option Addr) (l : List Ht) : Prop := Hits w lo hi a l ∧ HitBlk w a l
theorem HitsO.upd {w w' : World} {a : Option Addr} {l : List Ht} {lo hi lo2 hi2 : Nat} (h : HitsO w lo hi a l) (u : Upd lo2 hi2 w w') (hd : hi ≤ lo2 ∨ hi2 ≤ lo ∨ hi2 ≤ lo2) : HitsO w' lo hi a l :=
  ⟨h.1.upd u hd, HitBlk.upd (lo' := 0) (hi' := 0) h.2 h.1 u hd⟩
theorem HitsO.below {w w' : World} {a : Option Addr} {l : List Ht} {lo hi : Nat} (h : HitsO w lo hi a l) (u : Below w.heap.size w w') : HitsO w' lo hi a l := h.upd (Upd.of_below (lo := 0) (hi := 0) u) (by omega)
theorem HitsO.drawn {w w' : World} {a : Option Addr} {l : List Ht} {lo hi : Nat} (h : HitsO w lo hi a l) (d : Drawn w w') : HitsO w' lo hi a l := h.upd (d.upd (lo := 0) (hi := 0)) (by omega)
theorem HitsO.wide {w : World} {a : Option Addr} {l : List Ht} {lo hi lo' hi' : Nat} (h : HitsO w lo hi a l) (h1 : lo' ≤ lo) (h2 : hi ≤ hi') : HitsO w lo' hi' a l := ⟨h.1.wide h1 h2, h.2⟩
theorem hitsO_nil (w : World) (lo hi : Nat) (a : Option Addr) : HitsO w lo hi a [] := ⟨Hits.nil _ _ _ _, fun h => absurd rfl h⟩
theorem hitsO_of_owns {w : World} {base : Nat} {v : Value} {n : Nat} {l : List Ht} (h : w.ownsRow base 52 2 v n (flatH l)) (hlen : n ≤ 9223372036854775807) :
    ∃ a cap, v = .slice a l.length cap ∧ HitsO w base w.heap.size a l ∧ Cap l.length cap := by
  obtain ⟨a, cap, rfl, h1, h2⟩ := hits_of_owns h hlen
  refine ⟨a, cap, rfl, ⟨h1, fun hne b off ha => ?_⟩, h2⟩
  rcases h.2 with ⟨hv, h0⟩ | ⟨g, cap', cur, hv, hb, hg, _⟩
  · simp only [Value.slice.injEq] at hv
    rw [hv.1] at ha
    simp at ha
  · simp only [Value.slice.injEq] at hv
    rw [hv.1] at ha
    simp only [Option.some.injEq, Addr.mk.injEq] at ha
    obtain ⟨rfl, _, _⟩ := ha
    exact ⟨cur, hg⟩
theorem HitsO.take {w : World} {lo hi : Nat} {a : Option Addr} {l : List Ht} (h : HitsO w lo hi a l) (k : Nat) : HitsO w lo hi a (l.take k) :=
  ⟨h.1.take k, fun hne => h.2 (by rintro rfl; simp at hne)⟩
/-- a slice of hits that the call itself has made -/
def NewHits (w : World) (l : List Ht) (e : Ending) (w' : World) : Prop :=
  ∃ a cap, e = .returned (.slice a l.length cap) ∧ HitsO w' w.heap.size w'.heap.size a l ∧ Cap l.length cap ∧ Below w.heap.size w w'
theorem NewHits.later {w w2 w' : World} {l : List Ht} {e : Ending} (h : NewHits w2 l e w') (hb : Below w.heap.size w w2) : NewHits w l e w' := by
  obtain ⟨a, cap, he, ho, hc, hb2⟩ := h
  have hs := hb.size
  exact ⟨a, cap, he, ho.wide hs (Nat.le_refl _), hc, hb.trans (hb2.mono hs)⟩
theorem NewHits.nil {w w' : World} (h : Below w.heap.size w w') : NewHits w [] (.returned (.slice none 0 0)) w' := ⟨none, 0, rfl, hitsO_nil _ _ _ _, ⟨by simp, by simp⟩, h⟩
theorem NewHits.mk {w w' : World} {v : Value} {n : Nat} {l : List Ht} (ho : w'.ownsRow w.heap.size 52 2 v n (flatH l)) (hn : n ≤ 9223372036854775807) (hb : Below w.heap.size w w') : NewHits w l (.returned v) w' := by
  obtain ⟨a, cap, rfl, h1, h2⟩ := hitsO_of_owns ho hn
  exact ⟨a, cap, rfl, h1, h2, hb⟩
end Go.Proofs.Ytlammenejgagdaa

namespace Go.Proofs.Ytlammenejgagdaa
open Go.RowKit Go.Sort
set_option linter.unusedVariables false

/-- w' is w but for draws and new blocks behind -/
def Grew (w w' : World) : Prop := ∃ q os, w' = Go.Sort.grow (w.drewN q) os
theorem Grew.refl (w : World) : Grew w w := ⟨0, #[], by rw [grow_empty]; rfl⟩
theorem Grew.trans {a b c : World} (h : Grew a b) (k : Grew b c) : Grew a c := by
  obtain ⟨q, os, rfl⟩ := h
  obtain ⟨q', os', rfl⟩ := k
  exact ⟨q + q', os ++ os', by rw [show (Go.Sort.grow (a.drewN q) os).drewN q' = Go.Sort.grow ((a.drewN q).drewN q') os from rfl, grow_grow, World.drewN_drewN]⟩
theorem Grew.drawn {w w' : World} (h : Drawn w w') : Grew w w' := by
  obtain ⟨n, rfl⟩ := h
  exact ⟨n, #[], by rw [grow_empty]⟩
theorem Grew.alloc (w : World) (o : Obj) : Grew w (w.alloc o) := ⟨0, #[o], by exact alloc_eq_grow w o⟩
theorem Grew.below {w w' : World} (h : Grew w w') : Below w.heap.size w w' := by
  obtain ⟨q, os, rfl⟩ := h
  exact ⟨rfl, rfl, rfl, by simp [Go.Sort.grow, World.drewN], fun k hk => by simp [Go.Sort.grow, World.drewN, Array.getElem?_append, hk]⟩
theorem drawn_drew (w : World) : Drawn w w.drew := ⟨1, rfl⟩
end Go.Proofs.Ytlammenejgagdaa
