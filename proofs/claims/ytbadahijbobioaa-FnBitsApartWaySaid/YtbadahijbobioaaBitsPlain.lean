/-
  Plain facts on bits: the number of ones of a number in 0..63, and of the exclusive or of two such numbers. No program is in sight.
-/
import Derived.Test.YtbadahijbobioaaRows
import Derived.WalkKit
namespace Go.Proofs.Ytbadahijbobioaa
open Go.RowKit
set_option linter.unusedVariables false

/-- the ones of a number in 0..63 -/
def pop (x : Int) : Int := x % 2 + x / 2 % 2 + x / 4 % 2 + x / 8 % 2 + x / 16 % 2 + x / 32 % 2

theorem pop_half (x : Int) (h0 : 0 ≤ x) (h1 : x ≤ 63) : pop x = x % 2 + pop (x / 2) := by unfold pop; omega
theorem pop_bd (x : Int) (h0 : 0 ≤ x) : 0 ≤ pop x ∧ pop x ≤ 6 := by unfold pop; omega
theorem pop_zero : pop 0 = 0 := rfl

/-- what math/bits.OnesCount64 reckons, step by step -/
def oc1 (a : Int) : Int := IntKind.u64.wrap (bits BinOp.and IntKind.u64 (a / 2) 6148914691236517205 + bits BinOp.and IntKind.u64 a 6148914691236517205)
def oc2 (a : Int) : Int := IntKind.u64.wrap (bits BinOp.and IntKind.u64 (a / 4) 3689348814741910323 + bits BinOp.and IntKind.u64 a 3689348814741910323)
def oc3 (a : Int) : Int := bits BinOp.and IntKind.u64 (IntKind.u64.wrap (a / 16 + a)) 1085102592571150095
def oc4 (a : Int) : Int := IntKind.u64.wrap (a + a / 256)
def oc5 (a : Int) : Int := IntKind.u64.wrap (a + a / 65536)
def oc6 (a : Int) : Int := IntKind.u64.wrap (a + a / 4294967296)
def oc (a : Int) : Int := bits BinOp.and IntKind.i64 (wrap64 (oc6 (oc5 (oc4 (oc3 (oc2 (oc1 a))))))) 127

/-- the exclusive or of two ints -/
def xo (a b : Int) : Int := bits BinOp.xor IntKind.i64 a b

theorem nat_of {a : Int} (h0 : 0 ≤ a) (h1 : a ≤ 63) : ∃ n : Fin 64, a = ((n.val : Nat) : Int) := ⟨⟨a.toNat, by omega⟩, by show a = ((a.toNat : Nat) : Int); omega⟩

theorem pop_pos (x : Int) (h0 : 0 ≤ x) (h1 : x ≤ 63) (h : pop x = 0) : x = 0 := by
  obtain ⟨n, rfl⟩ := nat_of h0 h1
  revert n
  decide +kernel

theorem oc_fin : ∀ n : Fin 64, oc ((n.val : Nat) : Int) = pop ((n.val : Nat) : Int) := by decide +kernel
theorem oc_eq (a : Int) (h0 : 0 ≤ a) (h1 : a ≤ 63) : oc a = pop a := by
  obtain ⟨n, rfl⟩ := nat_of h0 h1
  exact oc_fin n

theorem xo_fin : ∀ n m : Fin 64, 0 ≤ xo ((n.val : Nat) : Int) ((m.val : Nat) : Int) ∧ xo ((n.val : Nat) : Int) ((m.val : Nat) : Int) ≤ 63 ∧
    xo ((m.val : Nat) : Int) ((n.val : Nat) : Int) = xo ((n.val : Nat) : Int) ((m.val : Nat) : Int) ∧ (xo ((n.val : Nat) : Int) ((m.val : Nat) : Int) = 0 → n = m) ∧
    pop (xo ((n.val : Nat) : Int) ((m.val : Nat) : Int)) ≤ pop ((n.val : Nat) : Int) + pop ((m.val : Nat) : Int) ∧
    (pop ((n.val : Nat) : Int) + pop ((m.val : Nat) : Int) - pop (xo ((n.val : Nat) : Int) ((m.val : Nat) : Int))) % 2 = 0 := by decide +kernel
theorem xo_zero_fin : ∀ n : Fin 64, xo ((n.val : Nat) : Int) 0 = ((n.val : Nat) : Int) ∧ xo 0 ((n.val : Nat) : Int) = ((n.val : Nat) : Int) := by decide +kernel

theorem xo_bd (a b : Int) (a0 : 0 ≤ a) (a1 : a ≤ 63) (b0 : 0 ≤ b) (b1 : b ≤ 63) : 0 ≤ xo a b ∧ xo a b ≤ 63 := by
  obtain ⟨n, rfl⟩ := nat_of a0 a1
  obtain ⟨m, rfl⟩ := nat_of b0 b1
  exact ⟨(xo_fin n m).1, (xo_fin n m).2.1⟩
theorem xo_comm (a b : Int) (a0 : 0 ≤ a) (a1 : a ≤ 63) (b0 : 0 ≤ b) (b1 : b ≤ 63) : xo b a = xo a b := by
  obtain ⟨n, rfl⟩ := nat_of a0 a1
  obtain ⟨m, rfl⟩ := nat_of b0 b1
  exact (xo_fin n m).2.2.1
theorem xo_eq_zero (a b : Int) (a0 : 0 ≤ a) (a1 : a ≤ 63) (b0 : 0 ≤ b) (b1 : b ≤ 63) (h : xo a b = 0) : a = b := by
  obtain ⟨n, rfl⟩ := nat_of a0 a1
  obtain ⟨m, rfl⟩ := nat_of b0 b1
  rw [(xo_fin n m).2.2.2.1 h]
theorem xo_self (a : Int) (a0 : 0 ≤ a) (a1 : a ≤ 63) : xo a a = 0 := by
  obtain ⟨n, rfl⟩ := nat_of a0 a1
  revert n
  decide +kernel
theorem xo_way (a b : Int) (a0 : 0 ≤ a) (a1 : a ≤ 63) (b0 : 0 ≤ b) (b1 : b ≤ 63) : pop (xo a b) ≤ pop a + pop b ∧ (pop a + pop b - pop (xo a b)) % 2 = 0 := by
  obtain ⟨n, rfl⟩ := nat_of a0 a1
  obtain ⟨m, rfl⟩ := nat_of b0 b1
  exact (xo_fin n m).2.2.2.2
theorem xo_zero_right (a : Int) (a0 : 0 ≤ a) (a1 : a ≤ 63) : xo a 0 = a := by
  obtain ⟨n, rfl⟩ := nat_of a0 a1
  exact (xo_zero_fin n).1
theorem xo_zero_left (a : Int) (a0 : 0 ≤ a) (a1 : a ≤ 63) : xo 0 a = a := by
  obtain ⟨n, rfl⟩ := nat_of a0 a1
  exact (xo_zero_fin n).2

/-- what BitsApart returns -/
def apart (a b : Int) : Int := if (0 ≤ a ∧ a ≤ 63) ∧ (0 ≤ b ∧ b ≤ 63) then pop (xo a b) else -1
theorem apart_out {a b : Int} (h : ¬ ((0 ≤ a ∧ a ≤ 63) ∧ (0 ≤ b ∧ b ≤ 63))) : apart a b = -1 := if_neg h
theorem apart_in {a b : Int} (h : (0 ≤ a ∧ a ≤ 63) ∧ (0 ≤ b ∧ b ≤ 63)) : apart a b = pop (xo a b) := if_pos h
theorem apart_facts {a b : Int} (h : (0 ≤ a ∧ a ≤ 63) ∧ (0 ≤ b ∧ b ≤ 63)) : 0 ≤ apart a b ∧ apart a b ≤ 6 ∧ apart b a = apart a b ∧ (apart a b = 0 → a = b) ∧ apart a a = 0 ∧
    apart a b ≤ apart a 0 + apart 0 b ∧ (apart a 0 + apart 0 b - apart a b) % 2 = 0 ∧ 0 ≤ apart a 0 ∧ 0 ≤ apart 0 b ∧ apart a 0 ≤ 6 ∧ apart 0 b ≤ 6 := by
  obtain ⟨⟨a0, a1⟩, b0, b1⟩ := h
  have hx := xo_bd a b a0 a1 b0 b1
  have hp := pop_bd (xo a b) hx.1
  have ha := pop_bd a a0
  have hb := pop_bd b b0
  have hw := xo_way a b a0 a1 b0 b1
  have e1 : apart a b = pop (xo a b) := apart_in ⟨⟨a0, a1⟩, b0, b1⟩
  have e2 : apart b a = pop (xo a b) := by rw [apart_in ⟨⟨b0, b1⟩, a0, a1⟩, xo_comm a b a0 a1 b0 b1]
  have e3 : apart a a = 0 := by rw [apart_in ⟨⟨a0, a1⟩, a0, a1⟩, xo_self a a0 a1]; rfl
  have e4 : apart a 0 = pop a := by rw [apart_in ⟨⟨a0, a1⟩, by omega, by omega⟩, xo_zero_right a a0 a1]
  have e5 : apart 0 b = pop b := by rw [apart_in ⟨⟨by omega, by omega⟩, b0, b1⟩, xo_zero_left b b0 b1]
  rw [e1, e2, e3, e4, e5]
  exact ⟨hp.1, hp.2, rfl, fun h => xo_eq_zero a b a0 a1 b0 b1 (pop_pos _ hx.1 hx.2 h), rfl, hw.1, hw.2, ha.1, hb.1, ha.2, hb.2⟩

end Go.Proofs.Ytbadahijbobioaa
