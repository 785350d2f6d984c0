/-
  Slices of items that the call itself makes and appends to.
-/
import Derived.Test.YtlammenejgagdaaItems
import Derived.Test.YtlammenejgagdaaReader
namespace Go.Proofs.Ytlammenejgagdaa
open Go.RowKit
set_option linter.unusedVariables false

/-- the type tables' row of Item -/
theorem infoItem : (Try.prog.info? 39).map (fun i => (i.zero, i.size, i.bytes)) = some (some (.agg #[.int .i64 0, .slice none 0 0, .int .i64 0]), 3, 40) := by kernel_rfl
/-- the cells of one item -/
def itCells (x : It) (a : Option Addr) (c : Nat) : List Value := [.int .i64 x.key, .slice a x.pos.length c, .int .i64 x.tags]
theorem itCells_one (x : It) (a : Option Addr) (c : Nat) : ∀ u ∈ itCells x a c, u.oneCell' = true := by
  intro u hu
  simp only [itCells, List.mem_cons, List.not_mem_nil, or_false] at hu
  rcases hu with rfl | rfl | rfl <;> rfl
/-- a vector of the call's own behind an item -/
def VecV (w : World) (lo hi : Nat) (x : It) (a : Option Addr) (c : Nat) : Prop := Ints w lo hi a x.pos ∧ IntBlk w a x.pos ∧ Cap x.pos.length c ∧ i64B x.key ∧ i64B x.tags
theorem VecV.upd {w w' : World} {lo hi lo' hi' : Nat} {x : It} {a : Option Addr} {c : Nat} (h : VecV w lo hi x a c) (u : Upd lo' hi' w w') (hd : hi ≤ lo' ∨ hi' ≤ lo ∨ hi' ≤ lo') : VecV w' lo hi x a c :=
  ⟨h.1.upd u hd, IntBlk.upd (lo' := 0) (hi' := 0) h.2.1 h.1 u hd, h.2.2⟩
theorem VecV.wide {w : World} {lo hi lo' hi' : Nat} {x : It} {a : Option Addr} {c : Nat} (h : VecV w lo hi x a c) (h1 : lo' ≤ lo) (h2 : hi ≤ hi') : VecV w lo' hi' x a c := ⟨h.1.wide h1 h2, h.2⟩
/-- the values vs are the cells of the items ll -/
def RwsI (w : World) (lo hi : Nat) (vs : List Value) (ll : List It) : Prop :=
  vs.length = ll.length * 3 ∧ ∀ j, j < ll.length → ∃ a c, vs[j * 3]? = some (.int .i64 (ll.getD j It.no).key) ∧ vs[j * 3 + 1]? = some (.slice a (ll.getD j It.no).pos.length c) ∧ vs[j * 3 + 2]? = some (.int .i64 (ll.getD j It.no).tags) ∧ VecV w lo hi (ll.getD j It.no) a c
/-- a slice of items that the call itself has made -/
def OwnItems (w : World) (lo hi : Nat) (v : Value) (ll : List It) : Prop := ∃ vs, w.ownsRow lo 39 3 v ll.length vs ∧ RwsI w lo hi vs ll
theorem rwsI_nil (w : World) (lo hi : Nat) : RwsI w lo hi [] [] := ⟨rfl, fun j hj => by simp at hj⟩
theorem RwsI.upd {w w' : World} {lo hi lo' hi' : Nat} {vs : List Value} {ll : List It} (h : RwsI w lo hi vs ll) (u : Upd lo' hi' w w') (hd : hi ≤ lo' ∨ hi' ≤ lo ∨ hi' ≤ lo') : RwsI w' lo hi vs ll :=
  ⟨h.1, fun j hj => by
    obtain ⟨a, c, h1, h2, h3, h4⟩ := h.2 j hj
    exact ⟨a, c, h1, h2, h3, h4.upd u hd⟩⟩
theorem RwsI.wide {w : World} {lo hi lo' hi' : Nat} {vs : List Value} {ll : List It} (h : RwsI w lo hi vs ll) (h1 : lo' ≤ lo) (h2 : hi ≤ hi') : RwsI w lo' hi' vs ll :=
  ⟨h.1, fun j hj => by
    obtain ⟨a, c, k1, k2, k3, k4⟩ := h.2 j hj
    exact ⟨a, c, k1, k2, k3, k4.wide h1 h2⟩⟩
/-- a vector is kept where a row of items is turned: its block was made for ints -/
theorem VecV.grown {w w' : World} {lo hi base size n : Nat} {xs : List Value} {v : Value} {x : It} {a : Option Addr} {c : Nat} {t : TypeId} (h : VecV w lo hi x a c) (hown : w.ownsRow base t size v n xs) (ht : t ≠ 3) (hg : w.grownBy w' v.ownBlock) : VecV w' lo hi x a c := by
  obtain ⟨k2, k3, k4⟩ := h
  have hne : ∀ b off, x.pos ≠ [] → a = some ⟨b, off, none⟩ → some b ≠ v.ownBlock := fun b off hl ha e => by
    obtain ⟨c', hc⟩ := k3 hl b off ha
    rcases hown.2 with ⟨rfl, _⟩ | ⟨g, cap, cur, rfl, _, hgg, _⟩
    · simp [Value.ownBlock] at e
    · simp only [Value.ownBlock, Option.some.injEq] at e
      subst e
      rw [hgg] at hc
      simp only [Option.some.injEq, Obj.cells.injEq] at hc
      exact ht hc.2.1
  refine ⟨⟨fun hl => ?_, k2.len, k2.ok⟩, fun hl b off ha => ?_, k4⟩
  · obtain ⟨b, off, ha, q1, q2, q3⟩ := k2.cells hl
    exact ⟨b, off, ha, q1, q2, fun i hi' => hg.cell (q3 i hi') (hne b off hl ha)⟩
  · obtain ⟨c', hc⟩ := k3 hl b off ha
    exact ⟨c', by rw [hg.block b (Array.getElem?_eq_some_iff.1 hc).1 (hne b off hl ha)]; exact hc⟩
theorem RwsI.grown {w w' : World} {lo hi base size n : Nat} {vs xs : List Value} {v : Value} {ll : List It} {t : TypeId} (h : RwsI w lo hi vs ll) (hown : w.ownsRow base t size v n xs) (ht : t ≠ 3) (hg : w.grownBy w' v.ownBlock) : RwsI w' lo hi vs ll :=
  ⟨h.1, fun j hj => by
    obtain ⟨a, c, k1, k2, k3, k4⟩ := h.2 j hj
    exact ⟨a, c, k1, k2, k3, k4.grown hown ht hg⟩⟩
theorem getD_app_left {α : Type} {l m : List α} {k : Nat} (d : α) (h : k < l.length) : (l ++ m).getD k d = l.getD k d := by
  rw [List.getD_eq_getElem?_getD, List.getD_eq_getElem?_getD, List.getElem?_append_left h]
theorem RwsI.snoc {w : World} {lo hi : Nat} {vs : List Value} {ll : List It} (h : RwsI w lo hi vs ll) {x : It} {a : Option Addr} {c : Nat} (hx : VecV w lo hi x a c) : RwsI w lo hi (vs ++ itCells x a c) (ll ++ [x]) := by
  refine ⟨by simp [h.1, itCells]; omega, fun j hj => ?_⟩
  by_cases hlt : j < ll.length
  · obtain ⟨a', c', k1, k2, k3, k4⟩ := h.2 j hlt
    rw [getD_app_left _ hlt]
    have hl := h.1
    exact ⟨a', c', by rw [List.getElem?_append_left (by omega)]; exact k1, by rw [List.getElem?_append_left (by omega)]; exact k2, by rw [List.getElem?_append_left (by omega)]; exact k3, k4⟩
  · have hjl : j = ll.length := by simp at hj; omega
    subst hjl
    rw [getD_last]
    have hl := h.1
    refine ⟨a, c, ?_, ?_, ?_, hx⟩
    · rw [List.getElem?_append_right (by omega), hl, Nat.sub_self]; rfl
    · rw [List.getElem?_append_right (by omega), hl, show ll.length * 3 + 1 - ll.length * 3 = 1 by omega]; rfl
    · rw [List.getElem?_append_right (by omega), hl, show ll.length * 3 + 2 - ll.length * 3 = 2 by omega]; rfl
/-- another vector in the place of one item's -/
theorem RwsI.setVec {w : World} {lo hi : Nat} {vs : List Value} {ll : List It} (h : RwsI w lo hi vs ll) {k : Nat} (hk : k < ll.length) {l : List Int} {a : Option Addr} {c : Nat} (hi' : Ints w lo hi a l) (hb : IntBlk w a l) (hc : Cap l.length c) :
    RwsI w lo hi (vs.set (k * 3 + 1) (.slice a l.length c)) (ll.set k ⟨(ll.getD k It.no).key, l, (ll.getD k It.no).tags⟩) := by
  refine ⟨by simp [h.1], fun j hj => ?_⟩
  have hj' : j < ll.length := by simpa using hj
  have hl := h.1
  by_cases hjk : k = j
  · subst hjk
    obtain ⟨a', c', k1, k2, k3, k4⟩ := h.2 k hj'
    have e : (ll.set k ⟨(ll.getD k It.no).key, l, (ll.getD k It.no).tags⟩).getD k It.no = ⟨(ll.getD k It.no).key, l, (ll.getD k It.no).tags⟩ := by
      rw [List.getD_eq_getElem?_getD, List.getElem?_set_self hj']; rfl
    rw [e]
    refine ⟨a, c, ?_, ?_, ?_, hi', hb, hc, k4.2.2.2⟩
    · rw [List.getElem?_set_ne (by omega)]; exact k1
    · exact List.getElem?_set_self (by omega)
    · rw [List.getElem?_set_ne (by omega)]; exact k3
  · obtain ⟨a', c', k1, k2, k3, k4⟩ := h.2 j hj'
    have e : (ll.set k ⟨(ll.getD k It.no).key, l, (ll.getD k It.no).tags⟩).getD j It.no = ll.getD j It.no := by rw [List.getD_eq_getElem?_getD, List.getElem?_set_ne hjk, List.getD_eq_getElem?_getD]
    rw [e]
    exact ⟨a', c', by rw [List.getElem?_set_ne (by omega)]; exact k1, by rw [List.getElem?_set_ne (by omega)]; exact k2, by rw [List.getElem?_set_ne (by omega)]; exact k3, k4⟩
/-- a slice of items of the call's own reads as a list of items -/
theorem items_of_owns {w : World} {lo hi : Nat} {v : Value} {ll : List It} (h : OwnItems w lo hi v ll) (hlen : ll.length ≤ 9223372036854775807) (hh : w.heap.size ≤ hi) : ∃ a cap, v = .slice a ll.length cap ∧ Items w lo hi a ll ∧ Cap ll.length cap := by
  obtain ⟨vs, hown, hr⟩ := h
  rcases hown.2 with ⟨rfl, h0⟩ | ⟨g, cap, cur, rfl, hb, hg, h1, h2, h3, h4⟩
  · have : ll = [] := List.eq_nil_of_length_eq_zero h0
    subst this
    exact ⟨none, 0, rfl, Items.nil _ _ _ _, by simp [Cap]⟩
  · refine ⟨some ⟨g, 0, none⟩, cap, rfl, ⟨fun _ => ⟨g, 0, rfl, hb, Nat.lt_of_lt_of_le (Array.getElem?_eq_some_iff.1 hg).1 hh, fun j hj => ?_⟩, hlen⟩, h1, h2⟩
    obtain ⟨a, c, k1, k2, k3, k4, k5, k6⟩ := hr.2 j hj
    have hl := hr.1
    refine ⟨a, c, ?_, ?_, ?_, k4, k6⟩
    · rw [Nat.zero_add, hown.cellAt (j * 3) (by omega), k1]
    · rw [Nat.zero_add, hown.cellAt (j * 3 + 1) (by omega), k2]
    · rw [Nat.zero_add, hown.cellAt (j * 3 + 2) (by omega), k3]
theorem OwnItems.read {w w' : World} {lo lo' hi' : Nat} {a : Option Addr} {cap n : Nat} {ll : List It} (h : OwnItems w lo w.heap.size (.slice a n cap) ll) (u : Upd lo' hi' w w') (hd : hi' ≤ lo) (hl : ll.length ≤ 1000) : n = ll.length ∧ Items w' lo w'.heap.size a ll ∧ Cap ll.length cap := by
  obtain ⟨vs, h1, h2⟩ := h
  have h3 := u.size
  have h4 := owns_upd h1 u (by omega)
  obtain ⟨a', cap', hv, hx, hc⟩ := items_of_owns ⟨vs, h4, (h2.upd u (by omega)).wide (Nat.le_refl _) h3⟩ (by omega) (Nat.le_refl _)
  simp only [Value.slice.injEq] at hv
  obtain ⟨rfl, hn, rfl⟩ := hv
  exact ⟨hn, hx, hc⟩
theorem below_drewN (w : World) (n : Nat) : Below w.heap.size w (w.drewN n) := Drawn.below ⟨n, rfl⟩
theorem OwnItems.upd {w w' : World} {lo hi lo' hi' : Nat} {v : Value} {ll : List It} (h : OwnItems w lo hi v ll) (u : Upd lo' hi' w w') (hd : hi' ≤ lo ∨ hi' ≤ lo') : OwnItems w' lo hi v ll := by
  obtain ⟨vs, h1, h2⟩ := h
  exact ⟨vs, owns_upd h1 u (by omega), h2.upd u (by omega)⟩
theorem OwnItems.wide {w : World} {lo hi hi' : Nat} {v : Value} {ll : List It} (h : OwnItems w lo hi v ll) (h2 : hi ≤ hi') : OwnItems w lo hi' v ll := by
  obtain ⟨vs, k1, k2⟩ := h
  exact ⟨vs, k1, k2.wide (Nat.le_refl _) h2⟩
theorem OwnItems.low {w : World} {lo lo' hi : Nat} {v : Value} {ll : List It} (h : OwnItems w lo hi v ll) (hl : lo' ≤ lo) : OwnItems w lo' hi v ll := by
  obtain ⟨vs, k1, k2⟩ := h
  exact ⟨vs, ⟨k1.1, k1.2.imp id fun ⟨g', c', cur, q1, q2, q3⟩ => ⟨g', c', cur, q1, Nat.le_trans hl q2, q3⟩⟩, k2.wide hl (Nat.le_refl _)⟩
theorem OwnItems.below {w w' : World} {lo hi : Nat} {v : Value} {ll : List It} (h : OwnItems w lo hi v ll) (u : Below w.heap.size w w') : OwnItems w' lo hi v ll := h.upd (Upd.of_below (lo := 0) (hi := 0) u) (by omega)
/-- a struct of three cells in a block of the call's own -/
theorem cells3_0 {w : World} {B : Nat} {x y z : Value} {t : TypeId} (h : w.heap[B]? = some (.cells #[x, y, z] t (0, 0))) : w.cell? ⟨B, 0, none⟩ = some x := by simp [World.cell?, h]
theorem cells3_1 {w : World} {B : Nat} {x y z : Value} {t : TypeId} (h : w.heap[B]? = some (.cells #[x, y, z] t (0, 0))) : w.cell? ⟨B, 1, none⟩ = some y := by simp [World.cell?, h]
theorem cells3_2 {w : World} {B : Nat} {x y z : Value} {t : TypeId} (h : w.heap[B]? = some (.cells #[x, y, z] t (0, 0))) : w.cell? ⟨B, 2, none⟩ = some z := by simp [World.cell?, h]
theorem cells3_f {w : World} {B : Nat} {x y z : Value} {t : TypeId} (h : w.heap[B]? = some (.cells #[x, y, z] t (0, 0))) (o : Nat) : w.frozen? ⟨B, o, none⟩ = false := by simp [World.frozen?, h]
theorem set3_0 {w : World} {B : Nat} {x y z : Value} {t : TypeId} (h : w.heap[B]? = some (.cells #[x, y, z] t (0, 0))) (u : Value) : (w.setCell ⟨B, 0, none⟩ u).heap[B]? = some (.cells #[u, y, z] t (0, 0)) := by simp [World.setCell, Array.getElem?_modify, h]
theorem set3_1 {w : World} {B : Nat} {x y z : Value} {t : TypeId} (h : w.heap[B]? = some (.cells #[x, y, z] t (0, 0))) (u : Value) : (w.setCell ⟨B, 1, none⟩ u).heap[B]? = some (.cells #[x, u, z] t (0, 0)) := by simp [World.setCell, Array.getElem?_modify, h]
theorem set3_2 {w : World} {B : Nat} {x y z : Value} {t : TypeId} (h : w.heap[B]? = some (.cells #[x, y, z] t (0, 0))) (u : Value) : (w.setCell ⟨B, 2, none⟩ u).heap[B]? = some (.cells #[x, y, u] t (0, 0)) := by simp [World.setCell, Array.getElem?_modify, h]
theorem upd_set (w : World) (B o : Nat) (u : Value) : Upd B (B + 1) w (w.setCell ⟨B, o, none⟩ u) := Upd.setCell w ⟨B, o, none⟩ u (Nat.le_refl _) (Nat.lt_succ_self _)
/-- what was turned lies above what there was -/
theorem Upd.above {lo hi B : Nat} {w0 w w' : World} (h : Upd lo hi w0 w) (u : Upd B (B + 1) w w') (hB : w0.heap.size ≤ B) : Upd lo hi w0 w' :=
  ⟨u.os.trans h.os, u.tape.trans h.tape, u.output.trans h.output, Nat.le_trans h.size u.size, fun k hk hd => by rw [u.block k (by have := h.size; omega) (by omega)]; exact h.block k hk hd⟩
theorem store3 {w : World} {B : Nat} {x0 y0 z0 : Value} {t : TypeId} (h : w.heap[B]? = some (.cells #[x0, y0, z0] t (0, 0))) (x y z : Value) :
    (((w.setCell ⟨B, 0, none⟩ x).setCell ⟨B, 1, none⟩ y).setCell ⟨B, 2, none⟩ z).heap[B]? = some (.cells #[x, y, z] t (0, 0)) := by
  have h1 : (w.setCell ⟨B, 0, none⟩ x).heap[B]? = some (.cells #[x, y0, z0] t (0, 0)) := by simp [World.setCell, Array.getElem?_modify, h]
  have h2 : ((w.setCell ⟨B, 0, none⟩ x).setCell ⟨B, 1, none⟩ y).heap[B]? = some (.cells #[x, y, z0] t (0, 0)) := by
    generalize w.setCell ⟨B, 0, none⟩ x = w' at h1 ⊢
    simp [World.setCell, Array.getElem?_modify, h1]
  generalize (w.setCell ⟨B, 0, none⟩ x).setCell ⟨B, 1, none⟩ y = w' at h2 ⊢
  simp [World.setCell, Array.getElem?_modify, h2]
theorem store3c {w : World} {B : Nat} {x0 y0 z0 : Value} {t : TypeId} (h : w.heap[B]? = some (.cells #[x0, y0, z0] t (0, 0))) (x y z : Value) :
    (w.setCell ⟨B, 0, none⟩ x).cell? ⟨B, 0, none⟩ = some x ∧ ((w.setCell ⟨B, 0, none⟩ x).setCell ⟨B, 1, none⟩ y).cell? ⟨B, 1, none⟩ = some y ∧ (((w.setCell ⟨B, 0, none⟩ x).setCell ⟨B, 1, none⟩ y).setCell ⟨B, 2, none⟩ z).cell? ⟨B, 2, none⟩ = some z := by
  have h1 : (w.setCell ⟨B, 0, none⟩ x).heap[B]? = some (.cells #[x, y0, z0] t (0, 0)) := by simp [World.setCell, Array.getElem?_modify, h]
  have h2 : ((w.setCell ⟨B, 0, none⟩ x).setCell ⟨B, 1, none⟩ y).heap[B]? = some (.cells #[x, y, z0] t (0, 0)) := by
    generalize w.setCell ⟨B, 0, none⟩ x = w' at h1 ⊢
    simp [World.setCell, Array.getElem?_modify, h1]
  exact ⟨cells3_0 h1, cells3_1 h2, cells3_2 (store3 h x y z)⟩
theorem upd_store3 (w : World) (B : Nat) (x y z : Value) : Upd B (B + 1) w (((w.setCell ⟨B, 0, none⟩ x).setCell ⟨B, 1, none⟩ y).setCell ⟨B, 2, none⟩ z) :=
  ((Upd.setCell w ⟨B, 0, none⟩ x (Nat.le_refl _) (Nat.lt_succ_self _)).trans (Upd.setCell _ ⟨B, 1, none⟩ y (Nat.le_refl _) (Nat.lt_succ_self _))).trans (Upd.setCell _ ⟨B, 2, none⟩ z (Nat.le_refl _) (Nat.lt_succ_self _))
end Go.Proofs.Ytlammenejgagdaa
