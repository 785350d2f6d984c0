/-
  Rows of items as they lie in memory, with their vectors elsewhere; rows of nodes of the call's own; what such a row's growth leaves as it was.
-/
import Derived.Test.YtlammenejgagdaaTreePlain
import Derived.Test.YtlammenejgagdaaItemsRead
namespace Go.Proofs.Ytlammenejgagdaa
open Go.RowKit
set_option linter.unusedVariables false

/-- an item and where its vector lies -/
structure Itv where
  it : It
  at_ : Option Addr
  cap : Nat
def Itv.no : Itv := ⟨It.no, none, 0⟩
def itvCells (v : Itv) : List Value := itCells v.it v.at_ v.cap
/-- the cells of such items -/
def flatI (l : List Itv) : List Value := l.flatMap itvCells
theorem flatI_app (l m : List Itv) : flatI (l ++ m) = flatI l ++ flatI m := by unfold flatI; rw [List.flatMap_append]
theorem flatI_one (x : Itv) : flatI [x] = itvCells x := by simp [flatI]
theorem flatI_cons (x : Itv) (l : List Itv) : flatI (x :: l) = .int .i64 x.it.key :: .slice x.at_ x.it.pos.length x.cap :: .int .i64 x.it.tags :: flatI l := by simp [flatI, itvCells, itCells]
theorem flatI_length (l : List Itv) : (flatI l).length = l.length * 3 := by
  induction l with
  | nil => rfl
  | cons x l ih => rw [flatI_cons]; simp [ih]; omega
theorem flatI_0 {l : List Itv} : ∀ {j : Nat}, j < l.length → (flatI l)[j * 3]? = some (.int .i64 (l.getD j Itv.no).it.key) := by
  induction l with
  | nil => intro j hj; simp at hj
  | cons x l ih =>
    intro j hj
    rw [flatI_cons]
    cases j with
    | zero => rfl
    | succ j => rw [show (j + 1) * 3 = j * 3 + 1 + 1 + 1 by omega, List.getElem?_cons_succ, List.getElem?_cons_succ, List.getElem?_cons_succ, ih (by simpa using hj)]; rfl
theorem flatI_1 {l : List Itv} : ∀ {j : Nat}, j < l.length → (flatI l)[j * 3 + 1]? = some (.slice (l.getD j Itv.no).at_ (l.getD j Itv.no).it.pos.length (l.getD j Itv.no).cap) := by
  induction l with
  | nil => intro j hj; simp at hj
  | cons x l ih =>
    intro j hj
    rw [flatI_cons]
    cases j with
    | zero => rfl
    | succ j => rw [show (j + 1) * 3 + 1 = (j * 3 + 1) + 1 + 1 + 1 by omega, List.getElem?_cons_succ, List.getElem?_cons_succ, List.getElem?_cons_succ, ih (by simpa using hj)]; rfl
theorem flatI_2 {l : List Itv} : ∀ {j : Nat}, j < l.length → (flatI l)[j * 3 + 2]? = some (.int .i64 (l.getD j Itv.no).it.tags) := by
  induction l with
  | nil => intro j hj; simp at hj
  | cons x l ih =>
    intro j hj
    rw [flatI_cons]
    cases j with
    | zero => rfl
    | succ j => rw [show (j + 1) * 3 + 2 = (j * 3 + 2) + 1 + 1 + 1 by omega, List.getElem?_cons_succ, List.getElem?_cons_succ, List.getElem?_cons_succ, ih (by simpa using hj)]; rfl
theorem flatI_set {l : List Itv} (x : Itv) : ∀ {j : Nat}, j < l.length → (((flatI l).set (j * 3) (.int .i64 x.it.key)).set (j * 3 + 1) (.slice x.at_ x.it.pos.length x.cap)).set (j * 3 + 2) (.int .i64 x.it.tags) = flatI (l.set j x) := by
  induction l with
  | nil => intro j hj; simp at hj
  | cons y l ih =>
    intro j hj
    cases j with
    | zero => rw [List.set_cons_zero, flatI_cons, flatI_cons]; rfl
    | succ j =>
      rw [List.set_cons_succ, flatI_cons, flatI_cons, ← ih (by simpa using hj), show (j + 1) * 3 + 2 = (j * 3 + 2) + 1 + 1 + 1 by omega, show (j + 1) * 3 + 1 = (j * 3 + 1) + 1 + 1 + 1 by omega, show (j + 1) * 3 = j * 3 + 1 + 1 + 1 by omega]
      rfl
theorem flatI_cells (l : List Itv) : ∀ u ∈ flatI l, u.oneCell' = true := by
  induction l with
  | nil => intro u hu; cases hu
  | cons x l ih =>
    intro u hu
    rw [show flatI (x :: l) = itvCells x ++ flatI l by simp [flatI]] at hu
    rcases List.mem_append.1 hu with hu | hu
    · exact itCells_one _ _ _ u hu
    · exact ih u hu
theorem itv_getD {l : List Itv} {j : Nat} (h : j < l.length) : (l.map Itv.it).getD j It.no = (l.getD j Itv.no).it := by
  rw [List.getD_eq_getElem?_getD, List.getElem?_map, List.getElem?_eq_getElem h, List.getD_eq_getElem?_getD, List.getElem?_eq_getElem h]; rfl
theorem itv_mem {l : List Itv} {j : Nat} (h : j < l.length) : l.getD j Itv.no ∈ l := by
  rw [List.getD_eq_getElem?_getD, List.getElem?_eq_getElem h]; exact List.getElem_mem _
theorem insAt_itv (l : List Itv) (x : Itv) (i : Nat) : (insAt l x i).map Itv.it = insAt (l.map Itv.it) x.it i := by unfold insAt; simp [List.map_take, List.map_drop]
theorem insAt_imem {l : List Itv} {x y : Itv} {i : Nat} (h : y ∈ insAt l x i) : y = x ∨ y ∈ l := by
  unfold insAt at h
  rcases List.mem_append.1 h with h | h
  · exact .inr (List.mem_of_mem_take h)
  · rcases List.mem_cons.1 h with h | h
    · exact .inl h
    · exact .inr (List.mem_of_mem_drop h)
/-- their vectors are there -/
def ItvOk (w : World) (lo hi : Nat) (l : List Itv) : Prop := ∀ v ∈ l, ItV w lo hi v.it v.at_ v.cap
theorem ItvOk.upd {w w' : World} {lo hi lo' hi' : Nat} {l : List Itv} (h : ItvOk w lo hi l) (u : Upd lo' hi' w w') (hd : hi ≤ lo' ∨ hi' ≤ lo ∨ hi' ≤ lo') : ItvOk w' lo hi l := fun v hv => (h v hv).upd u hd
theorem ItvOk.below {w w' : World} {lo hi : Nat} {l : List Itv} (h : ItvOk w lo hi l) (u : Below w.heap.size w w') : ItvOk w' lo hi l := h.upd (Upd.of_below (lo := 0) (hi := 0) u) (by omega)
/-- such rows read as cells of items -/
theorem rwsIR_itv {w : World} {lo hi : Nat} {l : List Itv} (h : ItvOk w lo hi l) : RwsIR w lo hi (flatI l) (l.map Itv.it) :=
  ⟨by rw [flatI_length, List.length_map], fun j hj => by
    rw [List.length_map] at hj
    rw [itv_getD hj]
    exact ⟨_, _, flatI_0 hj, flatI_1 hj, flatI_2 hj, h _ (itv_mem hj)⟩⟩
/-- The slice value '.slice a ll.length cap' reads as ll; its vectors lie below base; its cells lie there too, or in a block that was made for items. -/
structure ItemsB (w : World) (base : Nat) (a : Option Addr) (ll : List It) : Prop where
  cells : ll ≠ [] → ∃ b off, a = some ⟨b, off, none⟩ ∧ b < w.heap.size ∧ (b < base ∨ ∃ c, w.heap[b]? = some (.cells c 39 (0, 0))) ∧
    ∀ j, j < ll.length → ∃ aj cj, w.cell? ⟨b, off + j * 3, none⟩ = some (.int .i64 (ll.getD j It.no).key) ∧ w.cell? ⟨b, off + j * 3 + 1, none⟩ = some (.slice aj (ll.getD j It.no).pos.length cj) ∧ w.cell? ⟨b, off + j * 3 + 2, none⟩ = some (.int .i64 (ll.getD j It.no).tags) ∧ ItV w 0 base (ll.getD j It.no) aj cj
  len : ll.length ≤ 9223372036854775807
/-- w' is w but for blocks of rows of type t that lie from base on, for the blocks of X, and for new ones -/
structure Keep (base : Nat) (t : TypeId) (X : Nat → Prop) (w w' : World) : Prop where
  os : w'.os = w.os
  tape : w'.tape = w.tape
  output : w'.output = w.output
  size : w.heap.size ≤ w'.heap.size
  block : ∀ k, k < w.heap.size → ¬ X k → (k < base ∨ ∀ c, w.heap[k]? ≠ some (.cells c t (0, 0))) → w'.heap[k]? = w.heap[k]?
namespace Keep
variable {base : Nat} {t : TypeId} {X : Nat → Prop} {w w' w'' : World}
theorem refl (base : Nat) (t : TypeId) (X : Nat → Prop) (w : World) : Keep base t X w w := ⟨rfl, rfl, rfl, Nat.le_refl _, fun _ _ _ _ => rfl⟩
theorem trans (h : Keep base t X w w') (h' : Keep base t X w' w'') : Keep base t X w w'' := by
  refine ⟨h'.os.trans h.os, h'.tape.trans h.tape, h'.output.trans h.output, Nat.le_trans h.size h'.size, fun k hk hx hd => ?_⟩
  have e := h.block k hk hx hd
  rw [h'.block k (Nat.lt_of_lt_of_le hk h.size) hx (hd.imp id fun h2 c => by rw [e]; exact h2 c), e]
theorem of_below (h : Below w.heap.size w w') : Keep base t X w w' := ⟨h.os, h.tape, h.output, h.size, fun k hk _ _ => h.block k hk⟩
theorem drawn (h : Drawn w w') : Keep base t X w w' := of_below h.below
theorem own {size n : Nat} {v : Value} {xs : List Value} (ho : w.ownsRow base t size v n xs) (h : w.grownBy w' v.ownBlock) : Keep base t X w w' := by
  refine ⟨h.os, h.tape, h.output, h.size, fun k hk _ hd => h.block k hk fun e => ?_⟩
  rcases ho.2 with ⟨rfl, _⟩ | ⟨g, cap, cur, rfl, hb, hg, _⟩
  · simp [Value.ownBlock] at e
  · simp only [Value.ownBlock, Option.some.injEq] at e
    subst e
    rcases hd with hd | hd
    · omega
    · exact hd _ hg
theorem upd {size n g m cap : Nat} {xs : List Value} (ho : w.ownsRow base t size (.slice (some ⟨g, 0, none⟩) m cap) n xs) (h : Upd g (g + 1) w w') : Keep base t X w w' := by
  refine ⟨h.os, h.tape, h.output, h.size, fun k hk _ hd => h.block k hk ?_⟩
  by_cases e : k = g
  · exfalso
    subst e
    rcases ho.2 with ⟨h1, _⟩ | ⟨g', cap', cur, h1, hb, hg, _⟩
    · cases h1
    · simp only [Value.slice.injEq, Option.some.injEq, Addr.mk.injEq] at h1
      obtain ⟨⟨rfl, _⟩, _⟩ := h1
      rcases hd with hd | hd
      · omega
      · exact hd _ hg
  · omega
theorem exc {g : Nat} (hx : X g) (h : Upd g (g + 1) w w') : Keep base t X w w' :=
  ⟨h.os, h.tape, h.output, h.size, fun k hk hn _ => h.block k hk (by
    by_cases e : k = g
    · subst e; exact absurd hx hn
    · omega)⟩
theorem below (h : Keep base t X w w') (hX : ∀ k, X k → base ≤ k) (hb : base ≤ w.heap.size) : Below base w w' :=
  ⟨h.os, h.tape, h.output, h.size, fun k hk => h.block k (by omega) (fun hx => by have := hX k hx; omega) (.inl hk)⟩
theorem cell (h : Keep base t X w w') {b o : Nat} {v : Value} (hc : w.cell? ⟨b, o, none⟩ = some v) (hx : ¬ X b) (hd : b < base ∨ ∀ c, w.heap[b]? ≠ some (.cells c t (0, 0))) : w'.cell? ⟨b, o, none⟩ = some v := by
  rw [World.cell?_of_block (h.block b (World.block_lt_of_cell? w _ hc) hx hd), hc]
theorem mono {base' : Nat} (h : Keep base' t X w w') (hb : base ≤ base') : Keep base t X w w' :=
  ⟨h.os, h.tape, h.output, h.size, fun k hk hn hd => h.block k hk hn (hd.imp (fun h => by omega) id)⟩
end Keep
namespace ItemsB
variable {base : Nat} {t : TypeId} {X : Nat → Prop} {w w' : World} {a : Option Addr} {ll : List It}
theorem nil (w : World) (base : Nat) (a : Option Addr) : ItemsB w base a [] := ⟨fun h => absurd rfl h, by simp⟩
theorem of_items (h : Items w 0 base a ll) (hb : base ≤ w.heap.size) : ItemsB w base a ll := by
  refine ⟨fun hne => ?_, h.len⟩
  obtain ⟨b, off, ha, _, h2, h3⟩ := h.cells hne
  refine ⟨b, off, ha, by omega, .inl h2, fun j hj => ?_⟩
  obtain ⟨aj, cj, c0, c1, c2, c3⟩ := h3 j hj
  exact ⟨aj, cj, c0, c1, c2, c3⟩
theorem keep (h : ItemsB w base a ll) (u : Keep base t X w w') (ht : t ≠ 39) (hX : ∀ k, X k → base ≤ k ∧ ∀ c, w.heap[k]? ≠ some (.cells c 39 (0, 0))) (hb : base ≤ w.heap.size) : ItemsB w' base a ll := by
  refine ⟨fun hne => ?_, h.len⟩
  obtain ⟨b, off, ha, h1, h2, h3⟩ := h.cells hne
  have hbl := u.below (fun k hk => (hX k hk).1) hb
  have hnx : ¬ X b := fun hx => by
    obtain ⟨q1, q2⟩ := hX b hx
    rcases h2 with h2 | ⟨c, h2⟩
    · omega
    · exact q2 c h2
  have hd : b < base ∨ ∀ c, w.heap[b]? ≠ some (.cells c t (0, 0)) := h2.imp id fun ⟨c, hc⟩ c' e => by
    rw [hc] at e
    simp only [Option.some.injEq, Obj.cells.injEq] at e
    exact ht e.2.1.symm
  refine ⟨b, off, ha, Nat.lt_of_lt_of_le h1 u.size, h2.imp id fun ⟨c, hc⟩ => ⟨c, by rw [u.block b h1 hnx hd]; exact hc⟩, fun j hj => ?_⟩
  obtain ⟨aj, cj, c0, c1, c2, c3⟩ := h3 j hj
  refine ⟨aj, cj, u.cell c0 hnx hd, u.cell c1 hnx hd, u.cell c2 hnx hd, c3.upd (lo' := base) (hi' := w.heap.size) ⟨u.os, u.tape, u.output, u.size, fun k hk hd => ?_⟩ (.inl (Nat.le_refl _))⟩
  rcases hd with hd | hd
  · exact hbl.block k hd
  · omega
theorem below (h : ItemsB w base a ll) (u : Below w.heap.size w w') : ItemsB w' base a ll := by
  refine ⟨fun hne => ?_, h.len⟩
  obtain ⟨b, off, ha, h1, h2, h3⟩ := h.cells hne
  refine ⟨b, off, ha, Nat.lt_of_lt_of_le h1 u.size, h2.imp id fun ⟨c, hc⟩ => ⟨c, by rw [u.block b h1]; exact hc⟩, fun j hj => ?_⟩
  obtain ⟨aj, cj, c0, c1, c2, c3⟩ := h3 j hj
  exact ⟨aj, cj, cell_later u c0, cell_later u c1, cell_later u c2, c3.below u⟩
theorem items (h : ItemsB w base a ll) (hb : base ≤ w.heap.size) : Items w 0 w.heap.size a ll := by
  refine ⟨fun hne => ?_, h.len⟩
  obtain ⟨b, off, ha, h1, h2, h3⟩ := h.cells hne
  refine ⟨b, off, ha, Nat.zero_le _, h1, fun j hj => ?_⟩
  obtain ⟨aj, cj, c0, c1, c2, c3⟩ := h3 j hj
  exact ⟨aj, cj, c0, c1, c2, c3.wide (Nat.le_refl _) hb⟩
theorem at_ (h : ItemsB w base a ll) {k : Nat} (hk : k < ll.length) : ∃ b off, a = some ⟨b, off, none⟩ ∧ b < w.heap.size ∧ ∃ aj cj, w.cell? ⟨b, off + k * 3, none⟩ = some (.int .i64 (ll.getD k It.no).key) ∧ w.cell? ⟨b, off + k * 3 + 1, none⟩ = some (.slice aj (ll.getD k It.no).pos.length cj) ∧ w.cell? ⟨b, off + k * 3 + 2, none⟩ = some (.int .i64 (ll.getD k It.no).tags) ∧ ItV w 0 base (ll.getD k It.no) aj cj := by
  obtain ⟨b, off, ha, h1, h2, h3⟩ := h.cells (by intro e; subst e; simp at hk)
  exact ⟨b, off, ha, h1, h3 k hk⟩
theorem take (h : ItemsB w base a ll) (k : Nat) : ItemsB w base a (ll.take k) := by
  refine ⟨fun hne => ?_, by have := h.len; simp; omega⟩
  obtain ⟨b, off, ha, h1, h2, h3⟩ := h.cells (by rintro rfl; simp at hne)
  refine ⟨b, off, ha, h1, h2, fun j hj => ?_⟩
  have hj' : j < ll.length ∧ j < k := by simp at hj; omega
  have e : (ll.take k).getD j It.no = ll.getD j It.no := by rw [List.getD_eq_getElem?_getD, List.getD_eq_getElem?_getD, List.getElem?_take_of_lt hj'.2]
  rw [e]
  exact h3 j hj'.1
theorem drop {b off : Nat} (h : ItemsB w base (some ⟨b, off, none⟩) ll) (k : Nat) : ItemsB w base (some ⟨b, off + k * 3, none⟩) (ll.drop k) := by
  refine ⟨fun hne => ?_, by have := h.len; simp; omega⟩
  obtain ⟨b', off', ha, h1, h2, h3⟩ := h.cells (by rintro rfl; simp at hne)
  simp only [Option.some.injEq, Addr.mk.injEq] at ha
  obtain ⟨rfl, rfl, _⟩ := ha
  refine ⟨b, off + k * 3, rfl, h1, h2, fun j hj => ?_⟩
  have hj' : k + j < ll.length := by simp at hj; omega
  have e : (ll.drop k).getD j It.no = ll.getD (k + j) It.no := by rw [List.getD_eq_getElem?_getD, List.getD_eq_getElem?_getD, List.getElem?_drop]
  obtain ⟨aj, cj, c0, c1, c2, c3⟩ := h3 (k + j) hj'
  rw [e, show off + k * 3 + j * 3 = off + (k + j) * 3 by omega]
  exact ⟨aj, cj, c0, c1, c2, c3⟩
/-- a row of items of the call's own -/
theorem of_own {g n cap lo : Nat} {L : List Itv} (ho : w.ownsRow lo 39 3 (.slice (some ⟨g, 0, none⟩) n cap) n (flatI L)) (h : ItvOk w 0 base L) (hn : n ≤ 9223372036854775807) : ItemsB w base (some ⟨g, 0, none⟩) (L.map Itv.it) := by
  have hl : L.length = n := by have := ho.1; rw [flatI_length] at this; omega
  refine ⟨fun hne => ?_, by rw [List.length_map]; omega⟩
  have hne' : 1 ≤ L.length := by
    rcases Nat.eq_zero_or_pos L.length with h0 | h0
    · rw [List.eq_nil_of_length_eq_zero h0] at hne; exact absurd rfl hne
    · exact h0
  refine ⟨g, 0, rfl, (ho.lt g rfl).2, .inr ?_, fun j hj => ?_⟩
  · rcases ho.2 with ⟨h1, _⟩ | ⟨g', cap', cur, h1, hb, hg, _⟩
    · cases h1
    · simp only [Value.slice.injEq, Option.some.injEq, Addr.mk.injEq] at h1
      obtain ⟨⟨rfl, _⟩, _⟩ := h1
      exact ⟨cur, hg⟩
  · rw [List.length_map] at hj
    rw [itv_getD hj]
    have e0 := ho.cellAt (j * 3) (by omega)
    have e1 := ho.cellAt (j * 3 + 1) (by omega)
    have e2 := ho.cellAt (j * 3 + 2) (by omega)
    exact ⟨_, _, by rw [Nat.zero_add, e0, flatI_0 hj], by rw [Nat.zero_add, e1, flatI_1 hj], by rw [Nat.zero_add, e2, flatI_2 hj], h _ (itv_mem hj)⟩
end ItemsB

/-- the type tables' row of Node -/
theorem infoNode : (Try.prog.info? 46).map (fun i => (i.zero, i.size, i.bytes)) = some (some (.agg #[.int .i64 0, .int .i64 0, .int .i64 0, .int .i64 0]), 4, 32) := by kernel_rfl
/-- the cells of a node -/
def ndCells (x : Nd) : List Value := [.int .i64 x.key, .int .i64 x.rad, .int .i64 x.near, .int .i64 x.far]
def flatN (l : List Nd) : List Value := l.flatMap ndCells
theorem flatN_app (l m : List Nd) : flatN (l ++ m) = flatN l ++ flatN m := by unfold flatN; rw [List.flatMap_append]
theorem flatN_one (x : Nd) : flatN [x] = ndCells x := by simp [flatN]
theorem flatN_nil : flatN [] = [] := rfl
theorem flatN_cons (x : Nd) (l : List Nd) : flatN (x :: l) = .int .i64 x.key :: .int .i64 x.rad :: .int .i64 x.near :: .int .i64 x.far :: flatN l := by simp [flatN, ndCells]
theorem flatN_length (l : List Nd) : (flatN l).length = l.length * 4 := by
  induction l with
  | nil => rfl
  | cons x l ih => rw [flatN_cons]; simp [ih]; omega
theorem ndCells_one (x : Nd) : ∀ u ∈ ndCells x, u.oneCell' = true := by
  intro u hu
  simp only [ndCells, List.mem_cons, List.not_mem_nil, or_false] at hu
  rcases hu with rfl | rfl | rfl | rfl <;> rfl
theorem flatN_cell {l : List Nd} (d : Nat) (hd : d < 4) : ∀ {j : Nat}, j < l.length → (flatN l)[j * 4 + d]? = (ndCells (l.getD j Nd.no))[d]? := by
  induction l with
  | nil => intro j hj; simp at hj
  | cons x l ih =>
    intro j hj
    rw [show flatN (x :: l) = ndCells x ++ flatN l by simp [flatN]]
    cases j with
    | zero => rw [Nat.zero_mul, Nat.zero_add, List.getElem?_append_left (by show d < 4; exact hd)]; rfl
    | succ j =>
      rw [List.getElem?_append_right (by show 4 ≤ _; omega), show (j + 1) * 4 + d - (ndCells x).length = j * 4 + d by show (j + 1) * 4 + d - 4 = _; omega, ih (by simpa using hj)]
      rfl
theorem flatN_set {l : List Nd} (d : Nat) (u : Value) : ∀ {j : Nat}, j < l.length → ∀ y : Nd, ndCells y = (ndCells (l.getD j Nd.no)).set d u → (flatN l).set (j * 4 + d) u = flatN (l.set j y) ∨ 4 ≤ d := by
  induction l with
  | nil => intro j hj; simp at hj
  | cons x l ih =>
    intro j hj y hy
    by_cases h4 : 4 ≤ d
    · exact .inr h4
    · refine .inl ?_
      rw [show flatN (x :: l) = ndCells x ++ flatN l by simp [flatN]]
      cases j with
      | zero =>
        rw [Nat.zero_mul, Nat.zero_add, List.set_append_left _ _ (by show d < 4; omega), List.set_cons_zero, show flatN (y :: l) = ndCells y ++ flatN l by simp [flatN], hy]
        rfl
      | succ j =>
        rw [List.set_append_right _ _ (by show 4 ≤ _; omega), show (j + 1) * 4 + d - (ndCells x).length = j * 4 + d by show (j + 1) * 4 + d - 4 = _; omega, List.set_cons_succ, show flatN (x :: l.set j y) = ndCells x ++ flatN (l.set j y) by simp [flatN]]
        rcases ih (by simpa using hj) y hy with e | e
        · rw [e]
        · omega
end Go.Proofs.Ytlammenejgagdaa
