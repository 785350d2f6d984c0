/-
  What the laws' arguments look like in memory: slices of ints, slices of slices of ints.
-/
import Derived.Test.YtllahaebfhaobaaOwn
import Derived.ProofKit
import Derived.OpenShut
import Derived.Deep.Matrix
namespace Go.Proofs.Ytllahaebfhaobaa
open Go.ChangeShapes Go.WideShapes Go.ChangeAt Go.RowKit
set_option linter.unusedVariables false

theorem i64_wf {n : Int} (h : (Lit.int .i64 n).wf = true) : -9223372036854775808 ≤ n ∧ n ≤ 9223372036854775807 := by
  simpa [Lit.wf, IntKind.min, IntKind.max, IntKind.signed, IntKind.bits] using h

theorem ints_of_cells {w : World} {a : Option Addr} {z : List Int} {n c : Nat} (hn : n ≤ c) (hc : c ≤ maxLen) (hz : z.length = c) (hw : ∀ x ∈ z, (Lit.int .i64 x).wf = true)
    (hnone : a = none → c = 0) (hcell : ∀ a', a = some a' → ∀ j, j < c → w.cell? (a'.add j) = some (.int .i64 (z.getD j 0))) : Ints w 0 w.heap.size a (z.take n) := by
  unfold maxLen at hc
  refine ⟨fun hne => ?_, by simp; omega, fun x hx => i64_wf (hw x (List.mem_of_mem_take hx))⟩
  have hn0 : 0 < n := by
    rcases Nat.eq_zero_or_pos n with h | h
    · subst h; simp at hne
    · exact h
  cases a with
  | none => have := hnone rfl; omega
  | some ad =>
    obtain ⟨b, off, spot⟩ := ad
    have h0 := hcell _ rfl 0 (by omega)
    have hs : spot = none := by simpa [Addr.add] using World.cell?_spot h0
    subst hs
    refine ⟨b, off, rfl, Nat.zero_le _, ?_, fun j hj => ?_⟩
    · have := World.block_lt_of_cell? w _ h0
      simpa [Addr.add] using this
    · have hj' : j < n := by simp at hj; omega
      have h1 := hcell _ rfl j (by omega)
      rw [add_none] at h1
      rw [h1, List.getD_eq_getElem?_getD, List.getD_eq_getElem?_getD, List.getElem?_take_of_lt hj']

theorem ints_of_trod {H : Type} {enc : TypeId × Value → H} {W : World} {base fuel : Nat} {held : Bool} {a : Option Addr} {len cap : Nat} {x : DataW H × List MemPlace}
    (h : DataW.trod enc Try.prog W base (fun _ => true) held fuel 27 (Value.slice a len cap).cells.toList = some x) : ∃ l, l.length = len ∧ Ints W 0 W.heap.size a l ∧ Cap len cap := by
  rcases open_ints Try.underlying27 Try.underlying3 (by kernel_rfl) h with ⟨hcs, _⟩ | ⟨ad, l', c', zs, hcs, _, hl, hm, hz, _, hcell, hwz⟩
  · simp [Value.cells] at hcs
    obtain ⟨rfl, rfl, rfl⟩ := hcs
    exact ⟨[], rfl, Ints.nil _ _ _ _, by omega, by omega⟩
  · simp [Value.cells] at hcs
    obtain ⟨rfl, rfl, rfl⟩ := hcs
    have hz' : zs.length = cap := by simpa using hz
    refine ⟨zs.take len, by simp; omega, ints_of_cells hl hm hz' hwz (by simp) (fun a' ha j hj => ?_), hl, hm⟩
    simp only [Option.some.injEq] at ha
    subst ha
    exact hcell j (by omega)

theorem lists_of_trod {H : Type} {enc : TypeId × Value → H} {W : World} {base fuel : Nat} {held : Bool} {a : Option Addr} {len cap : Nat} {x : DataW H × List MemPlace}
    (h : DataW.trod enc Try.prog W base (fun _ => true) held fuel 23 (Value.slice a len cap).cells.toList = some x) : ∃ ll, ll.length = len ∧ Lists W 0 W.heap.size a ll ∧ Cap len cap := by
  rcases Go.Deep.open_int_rows Try.underlying23 Try.underlying27 Try.underlying3 (by kernel_rfl) (by kernel_rfl) h with ⟨hcs, _⟩ | ⟨ad, l', c', AA, LL, CC, ZZ, hcs, _, hl, hm, _, hr⟩
  · simp [Value.cells] at hcs
    obtain ⟨rfl, rfl, rfl⟩ := hcs
    exact ⟨[], rfl, Lists.nil _ _ _ _, by omega, by omega⟩
  · simp [Value.cells] at hcs
    obtain ⟨rfl, rfl, rfl⟩ := hcs
    have hm' : cap ≤ 9223372036854775807 := hm
    refine ⟨(List.range len).map fun r => (ZZ r).take (LL r), by simp, ⟨fun hne => ?_, by simp; omega⟩, hl, hm⟩
    have hn0 : 0 < len := by
      rcases Nat.eq_zero_or_pos len with h | h
      · subst h; simp at hne
      · exact h
    obtain ⟨b, off, spot⟩ := ad
    have h0 := (hr 0 (by omega)).1
    have hs : spot = none := by simpa [Addr.add] using World.cell?_spot h0
    subst hs
    refine ⟨b, off, rfl, Nat.zero_le _, ?_, fun j hj => ?_⟩
    · have := World.block_lt_of_cell? W _ h0
      simpa [Addr.add] using this
    · have hj' : j < len := by simpa using hj
      obtain ⟨q1, q2, q3, q4, q5, q6, q7⟩ := hr j (by omega)
      have e : ((List.range len).map fun r => (ZZ r).take (LL r)).getD j [] = (ZZ j).take (LL j) := by
        rw [List.getD_eq_getElem?_getD, List.getElem?_map, List.getElem?_range hj']
        rfl
      have e2 : ((ZZ j).take (LL j)).length = LL j := by simp; omega
      rw [e, e2]
      rw [add_none] at q1
      exact ⟨AA j, CC j, q1, ints_of_cells q2 q3 q4 q5 q6 (fun a' ha => (q7 a' ha).2)⟩
end Go.Proofs.Ytllahaebfhaobaa
