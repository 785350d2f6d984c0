/-
  Small lemmas that all texts of this seat use: what a call hands back, worlds that differ in new blocks or in a stretch of blocks, slices that read as lists.
-/
import Derived.Test.YtlammenejgagdaaRows
import Derived.WalkKit
import Derived.WalkSpells
import Derived.WalkLawsBesides
import Derived.Lib.Hide
namespace Go.Proofs.Ytlammenejgagdaa
open Go.RowKit
set_option linter.unusedVariables false

theorem ret_int {k : IntKind} {a b : Int} (h : a = b) : Ending.returned (.int k a) = .returned (.int k b) := by rw [h]
theorem ret_slice {a : Option Addr} {n m c : Nat} (h : n = m) : Ending.returned (.slice a n c) = .returned (.slice a m c) := by rw [h]
theorem int_eq {k : IntKind} {a b : Int} (h : a = b) : Value.int k a = .int k b := by rw [h]
theorem bool_eq {a b : Bool} (h : a = b) : Value.bool a = .bool b := by rw [h]
theorem ret_bool {a b : Bool} (h : a = b) : Ending.returned (.bool a) = .returned (.bool b) := by rw [h]

/-- 'n is in a range', as the reference's inRange returns it -/
def inR (n low high : Int) : Bool := decide (low ≤ n ∧ n ≤ high)
theorem inR_true {n low high : Int} (h : low ≤ n ∧ n ≤ high) : inR n low high = true := decide_eq_true h
theorem inR_false {n low high : Int} (h : ¬ (low ≤ n ∧ n ≤ high)) : inR n low high = false := decide_eq_false h

/-- w' is w but for what lies in the blocks lo .. hi-1, and for new blocks. -/
structure Upd (lo hi : Nat) (w w' : World) : Prop where
  os : w'.os = w.os
  tape : w'.tape = w.tape
  output : w'.output = w.output
  size : w.heap.size ≤ w'.heap.size
  block : ∀ k, k < w.heap.size → k < lo ∨ hi ≤ k → w'.heap[k]? = w.heap[k]?

namespace Upd
variable {lo hi : Nat} {a b c w w' : World}
theorem refl (lo hi : Nat) (w : World) : Upd lo hi w w := ⟨rfl, rfl, rfl, Nat.le_refl _, fun _ _ _ => rfl⟩
theorem trans (h : Upd lo hi a b) (k : Upd lo hi b c) : Upd lo hi a c :=
  ⟨k.os.trans h.os, k.tape.trans h.tape, k.output.trans h.output, Nat.le_trans h.size k.size,
   fun i hi' hr => (k.block i (Nat.lt_of_lt_of_le hi' h.size) hr).trans (h.block i hi' hr)⟩
theorem weak (h : Upd lo hi w w') {lo' hi' : Nat} (h1 : lo' ≤ lo ∨ hi ≤ lo) (h2 : hi ≤ hi' ∨ hi ≤ lo) : Upd lo' hi' w w' :=
  ⟨h.os, h.tape, h.output, h.size, fun k hk hr => h.block k hk (by omega)⟩
/-- what was turned lies above what was there: nothing old has turned -/
theorem fresh (h : Upd lo hi w w') (h1 : w.heap.size ≤ lo ∨ hi ≤ lo) {lo' hi' : Nat} : Upd lo' hi' w w' :=
  ⟨h.os, h.tape, h.output, h.size, fun k hk hr => h.block k hk (by omega)⟩
theorem below (h : Upd lo hi w w') (h1 : w.heap.size ≤ lo ∨ hi ≤ lo) : Below w.heap.size w w' :=
  ⟨h.os, h.tape, h.output, h.size, fun k hk => h.block k hk (by omega)⟩
/-- what was turned lies from lo on: below every B up to lo nothing has turned -/
theorem low (h : Upd lo hi w w') {B : Nat} (h1 : B ≤ lo) (h2 : B ≤ w.heap.size) : Below B w w' :=
  ⟨h.os, h.tape, h.output, h.size, fun k hk => h.block k (by omega) (by omega)⟩
theorem of_below (h : Below w.heap.size w w') : Upd lo hi w w' := ⟨h.os, h.tape, h.output, h.size, fun k hk _ => h.block k hk⟩
theorem of_grown {row : Option Nat} (h : w.grownBy w' row) (hr : ∀ k, row = some k → lo ≤ k ∧ k < hi) : Upd lo hi w w' :=
  ⟨h.os, h.tape, h.output, h.size, fun k hk hr' => h.block k hk (fun e => by have := hr k e.symm; omega)⟩
theorem alloc (w : World) (o : Obj) : Upd lo hi w (w.alloc o) := ⟨rfl, rfl, rfl, by simp, fun k hk _ => Below.heap_alloc _ _ _ hk⟩
theorem drewN (w : World) (n : Nat) : Upd lo hi w (w.drewN n) := ⟨rfl, rfl, rfl, Nat.le_refl _, fun _ _ _ => rfl⟩
theorem setCell (w : World) (p : Addr) (u : Value) (h1 : lo ≤ p.block) (h2 : p.block < hi) : Upd lo hi w (w.setCell p u) :=
  ⟨rfl, rfl, rfl, by simp [World.setCell], fun k hk hr => Below.heap_setCell _ _ _ _ (by omega)⟩
theorem cell (h : Upd lo hi w w') {p : Addr} {v : Value} (hv : w.cell? p = some v) (hp : p.block < lo ∨ hi ≤ p.block) : w'.cell? p = some v :=
  (World.cell?_of_block (h.block p.block (World.block_lt_of_cell? w p hv) hp)).trans hv
end Upd

/-- The lemma for a call that only reads: 'Below' and back. -/
theorem Below.upd {lo hi : Nat} {w w' : World} (h : Below w.heap.size w w') : Upd lo hi w w' := Upd.of_below h

/-- w' is w but for draws -/
def Drawn (w w' : World) : Prop := ∃ n, w' = w.drewN n
namespace Drawn
variable {a b c w w' : World}
theorem refl (w : World) : Drawn w w := ⟨0, rfl⟩
theorem of_eq (h : w = w') : Drawn w w' := h ▸ refl w
theorem trans (h : Drawn a b) (k : Drawn b c) : Drawn a c := by
  obtain ⟨n, rfl⟩ := h
  obtain ⟨m, rfl⟩ := k
  exact ⟨n + m, World.drewN_drewN _ _ _⟩
theorem more (h : Drawn a b) (n : Nat) : Drawn a (b.drewN n) := h.trans ⟨n, rfl⟩
theorem upd {lo hi : Nat} (h : Drawn w w') : Upd lo hi w w' := by
  obtain ⟨n, rfl⟩ := h
  exact Upd.drewN w n
theorem below (h : Drawn w w') {B : Nat} : Below B w w' := by
  obtain ⟨n, rfl⟩ := h
  exact ⟨rfl, rfl, rfl, Nat.le_refl _, fun _ _ => rfl⟩
theorem cell (h : Drawn w w') {p : Addr} {v : Value} (hv : w.cell? p = some v) : w'.cell? p = some v := by
  obtain ⟨n, rfl⟩ := h
  exact hv
theorem heap (h : Drawn w w') : w'.heap = w.heap := by
  obtain ⟨n, rfl⟩ := h
  rfl
end Drawn
theorem calls_drawn {P : Program} {f : FuncId} {args : Array Value} {w : World} {v : Ending} (h : Calls P f args w fun e w' => e = v ∧ w = w') : Calls P f args w fun e w' => e = v ∧ Drawn w w' :=
  h.mono fun _ _ h => ⟨h.1, Drawn.of_eq h.2⟩
/-- a callee that leaves the world, met in a quiet region -/
theorem quiet_left {P : Program} {f : FuncId} {args : Array Value} {w : World} {n : Nat} {v : Value}
    (h : Calls P f args (w.drewN n) fun e w' => e = .returned v ∧ w.drewN n = w') : Calls P f args (w.drewN n) fun e w'' => e = .returned v ∧ ∃ m, w'' = w.drewN m :=
  h.mono fun _ _ ⟨he, hm⟩ => ⟨he, n, hm.symm⟩
/-- a callee that draws, met in a quiet region -/
theorem quiet_drawn {P : Program} {f : FuncId} {args : Array Value} {w : World} {n : Nat} {v : Value}
    (h : Calls P f args (w.drewN n) fun e w' => e = .returned v ∧ Drawn (w.drewN n) w') : Calls P f args (w.drewN n) fun e w'' => e = .returned v ∧ ∃ m, w'' = w.drewN m :=
  h.mono fun _ _ ⟨he, m, hm⟩ => ⟨he, n + m, by rw [hm, World.drewN_drewN]⟩

end Go.Proofs.Ytlammenejgagdaa
