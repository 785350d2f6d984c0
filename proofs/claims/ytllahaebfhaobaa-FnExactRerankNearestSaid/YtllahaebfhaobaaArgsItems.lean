/-
  What a law's argument that is a slice of items looks like in memory.
-/
import Derived.Test.YtllahaebfhaobaaArgs
import Derived.Test.YtllahaebfhaobaaItems
import Derived.Deep.Strs
import Derived.Lib.SmallJoins
namespace Go.Proofs.Ytllahaebfhaobaa
open Go.ChangeShapes Go.WideShapes Go.ChangeAt Go.RowKit Go.Joins
set_option linter.unusedVariables false

theorem cellsItem : Try.prog.cellsOf 76 = 3 := by kernel_rfl
theorem list3 {c : List Value} (h : c.length = 3) : ∃ x y z, c = [x, y, z] := by
  match c, h with
  | [x, y, z], _ => exact ⟨x, y, z, rfl⟩
set_option maxRecDepth 100000 in
theorem items_of_trod {H : Type} {enc : TypeId × Value → H} {W : World} {base fuel : Nat} {held : Bool} {a : Option Addr} {len cap : Nat} {x : DataW H × List MemPlace}
    (h : DataW.trod enc Try.prog W base (fun _ => true) held fuel 40 (Value.slice a len cap).cells.toList = some x) : ∃ ll : List It, ll.length = len ∧ Items W 0 W.heap.size a ll ∧ Cap len cap := by
  rcases Go.Deep.open_slice Try.underlying40 h with ⟨hcs, _⟩ | ⟨ad, l', c', m, n, D, Pl, hcs, _, hl, hm, hmm, _, hx⟩
  · simp [Value.cells] at hcs
    obtain ⟨rfl, rfl, rfl⟩ := hcs
    exact ⟨[], rfl, Items.nil _ _ _ _, by omega, by omega⟩
  · simp [Value.cells] at hcs
    obtain ⟨rfl, rfl, rfl⟩ := hcs
    simp only [if_true] at hmm
    subst hmm
    have hm' : m ≤ 9223372036854775807 := hm
    have each : ∀ i, i < len → ∃ y : It, ∃ aj cj, W.cell? (ad.add (i * 3)) = some (.int .i64 y.key) ∧ W.cell? (ad.add (i * 3 + 1)) = some (.slice aj y.pos.length cj) ∧ W.cell? (ad.add (i * 3 + 2)) = some (.int .i64 y.tags) ∧ Ints W 0 W.heap.size aj y.pos ∧ Cap y.pos.length cj ∧ i64B y.key ∧ i64B y.tags := by
      intro i hi
      obtain ⟨cs', h1, h2⟩ := hx i (by omega)
      rw [cellsItem] at h1
      obtain ⟨_, hlen, hcell⟩ := World.cells?_some h1
      obtain ⟨y0, y1, y2, k, _, _, q0, q1, q2⟩ := Go.Deep.trod_struct3 Try.underlying76 h2
      obtain ⟨u0, u1, u2, rfl⟩ := list3 hlen
      have q0' : DataW.trod enc Try.prog W base (fun _ => true) held k 3 [u0] = some y0 := q0
      have q1' : DataW.trod enc Try.prog W base (fun _ => true) held k 27 [u1] = some y1 := q1
      have q2' : DataW.trod enc Try.prog W base (fun _ => true) held k 3 [u2] = some y2 := q2
      obtain ⟨n0, e0, _, w0⟩ := DataW.trod_int Try.underlying3 q0'
      obtain ⟨n2, e2, _, w2⟩ := DataW.trod_int Try.underlying3 q2'
      obtain ⟨aj, lj, cj, e1⟩ := slice_form Try.underlying27 q1'
      simp only [List.cons.injEq, and_true] at e0 e1 e2
      subst e0 e1 e2
      obtain ⟨l, hll, hi', hc⟩ := ints_of_trod (show DataW.trod enc Try.prog W base (fun _ => true) held k 27 (Value.slice aj lj cj).cells.toList = some y1 from q1')
      subst hll
      have g0 := hcell 0 (by omega)
      have g1 := hcell 1 (by omega)
      have g2 := hcell 2 (by omega)
      have hadd : ∀ r, (ad.add (i * 3)).add r = ad.add (i * 3 + r) := fun r => by
        obtain ⟨b, o, s⟩ := ad
        by_cases hi0 : i * 3 = 0
        · have hs : s = none := by simpa [Addr.add, hi0] using World.cell?_spot (show W.cell? _ = some _ from g0)
          subst hs
          rw [add_none, add_none, add_none, Nat.add_assoc]
        · have e1 : (⟨b, o, s⟩ : Addr).add (i * 3) = ⟨b, o + i * 3, none⟩ := by simp [Addr.add, hi0]
          have e2 : (⟨b, o, s⟩ : Addr).add (i * 3 + r) = ⟨b, o + (i * 3 + r), none⟩ := by
            have h3 : ¬ i * 3 + r = 0 := by omega
            simp only [Addr.add, h3, if_false]
          rw [e1, e2, add_none, Nat.add_assoc]
      rw [hadd] at g0 g1 g2
      exact ⟨⟨n0, l, n2⟩, aj, cj, g0, g1, g2, hi', hc, i64_wf w0, i64_wf w2⟩
    let f : Nat → It := fun i => if hi : i < len then Classical.choose (each i hi) else It.no
    have hf : ∀ i, i < len → ∃ aj cj, W.cell? (ad.add (i * 3)) = some (.int .i64 (f i).key) ∧ W.cell? (ad.add (i * 3 + 1)) = some (.slice aj (f i).pos.length cj) ∧ W.cell? (ad.add (i * 3 + 2)) = some (.int .i64 (f i).tags) ∧ Ints W 0 W.heap.size aj (f i).pos ∧ Cap (f i).pos.length cj ∧ i64B (f i).key ∧ i64B (f i).tags := fun i hi => by
      have e : f i = Classical.choose (each i hi) := dif_pos hi
      rw [e]
      exact Classical.choose_spec (each i hi)
    refine ⟨(List.range len).map f, by simp, ⟨fun hne => ?_, by simp; omega⟩, hl, hm⟩
    have hn0 : 0 < len := by
      rcases Nat.eq_zero_or_pos len with h | h
      · subst h; simp at hne
      · exact h
    obtain ⟨b, off, spot⟩ := ad
    obtain ⟨_, _, h0, _⟩ := hf 0 hn0
    have hs : spot = none := by simpa [Addr.add] using World.cell?_spot h0
    subst hs
    refine ⟨b, off, rfl, Nat.zero_le _, ?_, fun j hj => ?_⟩
    · have := World.block_lt_of_cell? W _ h0
      simpa [Addr.add] using this
    · have hj' : j < len := by simpa using hj
      have e : ((List.range len).map f).getD j It.no = f j := by
        rw [List.getD_eq_getElem?_getD, List.getElem?_map, List.getElem?_range hj']
        rfl
      rw [e]
      obtain ⟨aj, cj, g0, g1, g2, g3⟩ := hf j hj'
      rw [add_none] at g0 g1 g2
      exact ⟨aj, cj, g0, by rw [Nat.add_assoc]; exact g1, by rw [Nat.add_assoc]; exact g2, g3⟩
end Go.Proofs.Ytllahaebfhaobaa
