/-
  Slices of items that read as lists of items: three cells an item.
-/
import Derived.Test.YtlammenejgagdaaItemPlain
import Derived.Test.YtlammenejgagdaaOwn
import Derived.Lib.QuietBelow
namespace Go.Proofs.Ytlammenejgagdaa
open Go.RowKit
set_option linter.unusedVariables false

/-- numbers that an int holds -/
def i64B (n : Int) : Prop := -9223372036854775808 ≤ n ∧ n ≤ 9223372036854775807
/-- three cells of memory read as an item -/
def ItAt (w : World) (lo hi : Nat) (b o : Nat) (x : It) : Prop :=
  ∃ a c, w.cell? ⟨b, o, none⟩ = some (.int .i64 x.key) ∧ w.cell? ⟨b, o + 1, none⟩ = some (.slice a x.pos.length c) ∧ w.cell? ⟨b, o + 2, none⟩ = some (.int .i64 x.tags) ∧ Ints w lo hi a x.pos ∧ Cap x.pos.length c ∧ i64B x.key ∧ i64B x.tags
/-- The slice value '.slice a ll.length cap' reads as ll; its cells and those of its vectors lie in the blocks lo .. hi-1. -/
structure Items (w : World) (lo hi : Nat) (a : Option Addr) (ll : List It) : Prop where
  cells : ll ≠ [] → ∃ b off, a = some ⟨b, off, none⟩ ∧ lo ≤ b ∧ b < hi ∧ ∀ j, j < ll.length → ItAt w lo hi b (off + j * 3) (ll.getD j It.no)
  len : ll.length ≤ 9223372036854775807

theorem ItAt.upd {w w' : World} {lo hi lo' hi' b o : Nat} {x : It} (h : ItAt w lo hi b o x) (u : Upd lo' hi' w w') (hb : b < lo' ∨ hi' ≤ b) (hd : hi ≤ lo' ∨ hi' ≤ lo ∨ hi' ≤ lo') : ItAt w' lo hi b o x := by
  obtain ⟨a, c, h1, h2, h3, h4, h5⟩ := h
  exact ⟨a, c, u.cell h1 hb, u.cell h2 hb, u.cell h3 hb, h4.upd u hd, h5⟩
theorem ItAt.wide {w : World} {lo hi lo' hi' b o : Nat} {x : It} (h : ItAt w lo hi b o x) (h1 : lo' ≤ lo) (h2 : hi ≤ hi') : ItAt w lo' hi' b o x := by
  obtain ⟨a, c, k1, k2, k3, k4, k5⟩ := h
  exact ⟨a, c, k1, k2, k3, k4.wide h1 h2, k5⟩
namespace Items
variable {w w' : World} {lo hi lo' hi' : Nat} {a : Option Addr} {ll : List It}
theorem nil (w : World) (lo hi : Nat) (a : Option Addr) : Items w lo hi a [] := ⟨fun h => absurd rfl h, by simp⟩
theorem at_ (h : Items w lo hi a ll) {k : Nat} (hk : k < ll.length) : ∃ b off, a = some ⟨b, off, none⟩ ∧ lo ≤ b ∧ b < hi ∧ ItAt w lo hi b (off + k * 3) (ll.getD k It.no) := by
  obtain ⟨b, off, ha, h1, h2, h3⟩ := h.cells (by intro e; subst e; simp at hk)
  exact ⟨b, off, ha, h1, h2, h3 k hk⟩
theorem upd (h : Items w lo hi a ll) (u : Upd lo' hi' w w') (hd : hi ≤ lo' ∨ hi' ≤ lo ∨ hi' ≤ lo') : Items w' lo hi a ll := by
  refine ⟨fun hne => ?_, h.len⟩
  obtain ⟨b, off, ha, h1, h2, h3⟩ := h.cells hne
  exact ⟨b, off, ha, h1, h2, fun j hj => (h3 j hj).upd u (by omega) hd⟩
theorem below (h : Items w lo hi a ll) (u : Below w.heap.size w w') : Items w' lo hi a ll := h.upd (Upd.of_below (lo := 0) (hi := 0) u) (by omega)
theorem drawn (h : Items w lo hi a ll) (d : Drawn w w') : Items w' lo hi a ll := h.upd (d.upd (lo := 0) (hi := 0)) (by omega)
theorem wide (h : Items w lo hi a ll) (h1 : lo' ≤ lo) (h2 : hi ≤ hi') : Items w lo' hi' a ll := by
  refine ⟨fun hne => ?_, h.len⟩
  obtain ⟨b, off, ha, k1, k2, k3⟩ := h.cells hne
  exact ⟨b, off, ha, by omega, by omega, fun j hj => (k3 j hj).wide h1 h2⟩
theorem take (h : Items w lo hi a ll) (k : Nat) : Items w lo hi a (ll.take k) := by
  refine ⟨fun hne => ?_, by have := h.len; simp; omega⟩
  obtain ⟨b, off, ha, k1, k2, k3⟩ := h.cells (by rintro rfl; simp at hne)
  refine ⟨b, off, ha, k1, k2, fun j hj => ?_⟩
  have hj' : j < ll.length ∧ j < k := by simp at hj; omega
  have e : (ll.take k).getD j It.no = ll.getD j It.no := by rw [List.getD_eq_getElem?_getD, List.getD_eq_getElem?_getD, List.getElem?_take_of_lt hj'.2]
  rw [e]
  exact k3 j hj'.1
end Items
/-- an item as a value -/
def ItV (w : World) (lo hi : Nat) (x : It) (a : Option Addr) (c : Nat) : Prop := Ints w lo hi a x.pos ∧ Cap x.pos.length c ∧ i64B x.key ∧ i64B x.tags
theorem ItV.upd {w w' : World} {lo hi lo' hi' : Nat} {x : It} {a : Option Addr} {c : Nat} (h : ItV w lo hi x a c) (u : Upd lo' hi' w w') (hd : hi ≤ lo' ∨ hi' ≤ lo ∨ hi' ≤ lo') : ItV w' lo hi x a c := ⟨h.1.upd u hd, h.2⟩
theorem ItV.below {w w' : World} {lo hi : Nat} {x : It} {a : Option Addr} {c : Nat} (h : ItV w lo hi x a c) (u : Below w.heap.size w w') : ItV w' lo hi x a c := ⟨h.1.below u, h.2⟩
theorem ItV.wide {w : World} {lo hi lo' hi' : Nat} {x : It} {a : Option Addr} {c : Nat} (h : ItV w lo hi x a c) (h1 : lo' ≤ lo) (h2 : hi ≤ hi') : ItV w lo' hi' x a c := ⟨h.1.wide h1 h2, h.2⟩
/-- three cells of a new block -/
theorem cells3_new (w : World) (x y z : Value) (t : TypeId) : (w.alloc (.cells #[x, y, z] t)).cell? ⟨w.heap.size, 0, none⟩ = some x ∧ (w.alloc (.cells #[x, y, z] t)).cell? ⟨w.heap.size, 1, none⟩ = some y ∧ (w.alloc (.cells #[x, y, z] t)).cell? ⟨w.heap.size, 2, none⟩ = some z :=
  ⟨cell_new w _ t 0, cell_new w _ t 1, cell_new w _ t 2⟩
theorem below_alloc (w : World) (o : Obj) : Below w.heap.size w (w.alloc o) := (Below.refl _ _).alloc (Nat.le_refl _) _
/-- a callee's contract, met in a region whose order is drawn -/
theorem met_below {P : Program} {f : FuncId} {args : Array Value} {w : World} {v : Value} (h : ∀ w', Below w.heap.size w w' → Calls P f args w' fun e w'' => e = .returned v ∧ Below w'.heap.size w' w'') :
    ∀ d os, Calls P f args (Go.Sort.grow (redrawn w d) os) fun e w'' => e = .returned v ∧ ∃ p : Regrown, w'' = Go.Sort.grow (redrawn w p.d) p.os :=
  fun d os => Calls.regrown_of (h _ (below_regrown w d os))
theorem calls_below {P : Program} {f : FuncId} {args : Array Value} {w : World} {v : Ending} (h : Calls P f args w fun e w' => e = v ∧ w = w') : Calls P f args w fun e w' => e = v ∧ Below w.heap.size w w' :=
  h.mono fun _ _ h => ⟨h.1, h.2 ▸ Below.refl _ _⟩
theorem calls_below_drawn {P : Program} {f : FuncId} {args : Array Value} {w : World} {v : Ending} (h : Calls P f args w fun e w' => e = v ∧ Drawn w w') : Calls P f args w fun e w' => e = v ∧ Below w.heap.size w w' :=
  h.mono fun _ _ h => ⟨h.1, h.2.below⟩
/-- the key of the item before number k -/
theorem Items.prev {w : World} {lo hi b off : Nat} {ll : List It} (h : Items w lo hi (some ⟨b, off, none⟩) ll) {k : Nat} (hk : k < ll.length) (h0 : 0 < k) : ∃ p, (ll.getD (k - 1) It.no).key = p ∧ w.cell? ⟨b, off + (k - 1) * 3, none⟩ = some (.int .i64 p) := by
  obtain ⟨b', off', ha', _, _, ap, cp, q0, _⟩ := h.at_ (show k - 1 < ll.length by omega)
  simp only [Option.some.injEq, Addr.mk.injEq] at ha'
  obtain ⟨rfl, rfl, _⟩ := ha'
  exact ⟨_, rfl, q0⟩
end Go.Proofs.Ytlammenejgagdaa
