/-
  Slices that the call itself makes and appends to: small laws on the guide's 'ownsRow'.
-/
import Derived.Test.YtlammenejgagdaaLists
import Derived.Laws.AppendOwnNone
namespace Go.Proofs.Ytlammenejgagdaa
open Go.RowKit
set_option linter.unusedVariables false

/-- the type tables' row of int -/
theorem infoInt : (Try.prog.info? 3).map (fun i => (i.zero, i.size, i.bytes)) = some (some (.int .i64 0), 1, 8) := by kernel_rfl
/-- the type tables' row of []int -/
theorem infoInts : (Try.prog.info? 31).map (fun i => (i.zero, i.size, i.bytes)) = some (some (.slice none 0 0), 1, 24) := by kernel_rfl

theorem add_none (b o j : Nat) : (⟨b, o, none⟩ : Addr).add j = ⟨b, o + j, none⟩ := by
  unfold Addr.add
  split <;> simp_all

theorem cell_new (w : World) (cs : Array Value) (t : TypeId) (j : Nat) : (w.alloc (.cells cs t)).cell? ⟨w.heap.size, j, none⟩ = cs[j]? := by
  unfold World.cell?
  rw [show (w.alloc (.cells cs t)).heap[w.heap.size]? = some _ from heap_alloc_new w _]
  simp

/-- what a change does that lies in the new blocks alone -/
theorem grownBy_trans_alloc {w w' : World} {o : Obj} {row : Option Nat} (h : (w.alloc o).grownBy w' row) : w.grownBy w' row := by
  refine ⟨h.os, h.tape, h.output, Nat.le_trans (by simp) h.size, fun k hk hr => ?_⟩
  rw [h.block k (by simp; omega) hr]
  exact Below.heap_alloc _ _ _ hk

/-- 'append(s, x)' of one element onto a slice of the call's own -/
theorem append1 {P : Program} {ops : Array Oper} {rest : List Oper} {o : Oper} {a : Act} {Q : Exit → Act → World → Prop} {wq : World} (hgd : o.guard = none) (s x : Operand) (t : TypeId)
    (ho : o.op = .call { callee := .builtin .append, args := #[s, x], argTypes := #[t, t] }) (base : Nat) (e : TypeId) {z : Value} {size bytes : Nat} (ht : P.underlying t = some (.slice e))
    (hinfo : (P.info? e).map (fun i => (i.zero, i.size, i.bytes)) = some (some z, size, bytes)) (hzs : z.cells.size = size) (hsz : 0 < size) (hby : bytes ≤ 64)
    (v : Value) (n : Nat) (xs : List Value) (hs : a.eval s = v) (hown : wq.ownsRow base e size v n xs) (cs : List Value) (hx : a.eval x = .slice (some ⟨wq.heap.size, 0, none⟩) 1 1)
    (hl : cs.length = size) (h1 : ∀ u ∈ cs, u.oneCell' = true) (hn : n ≤ 1099511627775) (hbase : base ≤ wq.heap.size)
    (h : ∀ v' w', w'.ownsRow base e size v' (n + 1) (xs ++ cs) → wq.grownBy w' v.ownBlock → wpList P ops Q rest (a.put o.dst v') w') : wpList P ops Q (o :: rest) a (wq.alloc (.cells cs.toArray e)) := by
  obtain ⟨i, hi, hz, hi1, hi2⟩ := info_parts hinfo
  refine wpList_append_own (wq.alloc (.cells cs.toArray e)) hgd s x t ho base e i z size bytes ht hi hz hi1 hi2 hzs hsz v n xs hs (hown.alloc _) ⟨wq.heap.size, 0, none⟩ 1 1 cs hx (by omega) ?_ h1 ?_ ?_ (by simp; omega) ?_
  · intro j u hj
    rw [add_none, Nat.zero_add, cell_new]
    simpa using hj
  · unfold maxLen; omega
  · have : (n + 1) * bytes ≤ 1099511627776 * 64 := Nat.mul_le_mul (by omega) hby
    omega
  · intro v' w' k1 k2 _
    exact h v' w' k1 (grownBy_trans_alloc k2)

/-- 'append(s, x...)' onto a slice of the call's own, x a slice whose cells are known -/
theorem appendN {P : Program} {ops : Array Oper} {rest : List Oper} {o : Oper} {a : Act} {Q : Exit → Act → World → Prop} {wq : World} (hgd : o.guard = none) (s x : Operand) (t : TypeId)
    (ho : o.op = .call { callee := .builtin .append, args := #[s, x], argTypes := #[t, t] }) (base : Nat) (e : TypeId) {z : Value} {size bytes : Nat} (ht : P.underlying t = some (.slice e))
    (hinfo : (P.info? e).map (fun i => (i.zero, i.size, i.bytes)) = some (some z, size, bytes)) (hzs : z.cells.size = size) (hsz : 0 < size) (hby : bytes ≤ 64)
    (v : Value) (n : Nat) (xs : List Value) (hs : a.eval s = v) (hown : wq.ownsRow base e size v n xs) (ad : Addr) (m c : Nat) (news : List Value) (hx : a.eval x = .slice (some ad) m c)
    (hl : news.length = m * size) (hnews : ∀ j u, news[j]? = some u → wq.cell? (ad.add j) = some u) (h1 : ∀ u ∈ news, u.oneCell' = true) (hn : n + m ≤ 1099511627775) (hbase : base ≤ wq.heap.size)
    (h : ∀ v' w', w'.ownsRow base e size v' (n + m) (xs ++ news) → wq.grownBy w' v.ownBlock → wpList P ops Q rest (a.put o.dst v') w') : wpList P ops Q (o :: rest) a wq := by
  obtain ⟨i, hi, hz, hi1, hi2⟩ := info_parts hinfo
  refine wpList_append_own wq hgd s x t ho base e i z size bytes ht hi hz hi1 hi2 hzs hsz v n xs hs hown ad m c news hx hl hnews h1 ?_ ?_ hbase (fun v' w' k1 k2 _ => h v' w' k1 k2)
  · unfold maxLen; omega
  · have : (n + m) * bytes ≤ 1099511627776 * 64 := Nat.mul_le_mul (by omega) hby
    omega

theorem ints_cells (l : List Int) : ∀ u ∈ l.map (Value.int .i64), u.oneCell' = true := ints_oneCell .i64 l

/-- the block behind a slice of ints was made for ints -/
def IntBlk (w : World) (a : Option Addr) (l : List Int) : Prop := l ≠ [] → ∀ b off, a = some ⟨b, off, none⟩ → ∃ c, w.heap[b]? = some (.cells c 3 (0, 0))
theorem IntBlk.upd {w w' : World} {a : Option Addr} {l : List Int} {lo hi lo' hi' : Nat} (h : IntBlk w a l) (hi' : Ints w lo hi a l) {lo2 hi2 : Nat} (u : Upd lo2 hi2 w w') (hd : hi ≤ lo2 ∨ hi2 ≤ lo ∨ hi2 ≤ lo2) : IntBlk w' a l := fun hne b off ha => by
  obtain ⟨c, hc⟩ := h hne b off ha
  obtain ⟨b', off', ha', h1, h2, _⟩ := hi'.cells hne
  rw [ha] at ha'
  simp only [Option.some.injEq, Addr.mk.injEq] at ha'
  obtain ⟨rfl, _, _⟩ := ha'
  exact ⟨c, by rw [u.block b (Array.getElem?_eq_some_iff.1 hc).1 (by omega)]; exact hc⟩
theorem intBlk_of_owns {w : World} {base : Nat} {a : Option Addr} {m n cap : Nat} {xs : List Value} {l : List Int} (h : w.ownsRow base 3 1 (.slice a m cap) n xs) : IntBlk w a l := fun hne b off ha => by
  rcases h.2 with ⟨hv, _⟩ | ⟨g, cap', cur, hv, hb, hg, _⟩
  · simp only [Value.slice.injEq] at hv
    rw [hv.1] at ha
    simp at ha
  · simp only [Value.slice.injEq] at hv
    rw [hv.1] at ha
    simp only [Option.some.injEq, Addr.mk.injEq] at ha
    obtain ⟨rfl, _, _⟩ := ha
    exact ⟨cur, hg⟩

theorem intBlk_off {w : World} {base g : Nat} {n cap : Nat} {xs : List Value} (h : w.ownsRow base 3 1 (.slice (some ⟨g, 0, none⟩) n cap) n xs) (o : Nat) (l : List Int) : IntBlk w (some ⟨g, o, none⟩) l := fun hne b off ha => by
  rcases h.2 with ⟨hv, _⟩ | ⟨g', cap', cur, hv, hb, hg, _⟩
  · simp at hv
  · simp only [Value.slice.injEq, Option.some.injEq, Addr.mk.injEq] at hv ha
    obtain ⟨⟨rfl, _⟩, _⟩ := hv
    obtain ⟨rfl, _⟩ := ha
    exact ⟨cur, hg⟩
/-- a slice of ints of the call's own reads as a list -/
theorem ints_of_owns {w : World} {base e : Nat} {v : Value} {n : Nat} {l : List Int} (h : w.ownsRow base e 1 v n (l.map (Value.int .i64))) (hok : ∀ x ∈ l, -9223372036854775808 ≤ x ∧ x ≤ 9223372036854775807) (hlen : n ≤ 9223372036854775807) :
    ∃ a cap, v = .slice a l.length cap ∧ Ints w base w.heap.size a l := by
  have hn : l.length = n := by have := h.1; simpa using this
  subst hn
  rcases h.2 with ⟨rfl, h0⟩ | ⟨g, cap, cur, rfl, hb, hg, h1, h2, h3, h4⟩
  · have : l = [] := List.eq_nil_of_length_eq_zero h0
    subst this
    exact ⟨none, 0, rfl, Ints.nil _ _ _ _⟩
  · refine ⟨some ⟨g, 0, none⟩, cap, rfl, ⟨fun _ => ⟨g, 0, rfl, hb, (Array.getElem?_eq_some_iff.1 hg).1, fun j hj => ?_⟩, hlen, hok⟩⟩
    have h5 := h.cellAt j (by simpa using hj)
    rw [Nat.zero_add, h5, List.getElem?_map, List.getElem?_eq_getElem hj, List.getD_eq_getElem?_getD, List.getElem?_eq_getElem hj]
    rfl

/-- a literal of ints reads as its list -/
theorem ints_lit (w : World) (l : List Int) (t : TypeId) (hok : ∀ x ∈ l, -9223372036854775808 ≤ x ∧ x ≤ 9223372036854775807) (hlen : l.length ≤ 9223372036854775807) :
    Ints (w.alloc (.cells (l.map (Value.int .i64)).toArray t)) w.heap.size (w.heap.size + 1) (some ⟨w.heap.size, 0, none⟩) l := by
  refine ⟨fun _ => ⟨w.heap.size, 0, rfl, Nat.le_refl _, by omega, fun j hj => ?_⟩, hlen, hok⟩
  rw [cell_new, List.getElem?_toArray, Nat.zero_add, List.getElem?_map, List.getElem?_eq_getElem hj, List.getD_eq_getElem?_getD, List.getElem?_eq_getElem hj]
  rfl

/-- a change of the call's own row, seen from an elder world -/
theorem Upd.grow {lo hi : Nat} {w wr w1 : World} {row : Option Nat} (h : Upd lo hi w wr) (hg : wr.grownBy w1 row) (hr : ∀ k, row = some k → w.heap.size ≤ k) : Upd lo hi w w1 :=
  ⟨hg.os.trans h.os, hg.tape.trans h.tape, hg.output.trans h.output, Nat.le_trans h.size hg.size, fun k hk hd => by
    rw [hg.block k (Nat.lt_of_lt_of_le hk h.size) (fun e => by have := hr k e.symm; omega)]
    exact h.block k hk hd⟩
/-- an owned row is kept by a change elsewhere -/
theorem owns_upd {lo hi : Nat} {w w' : World} {base e size : Nat} {v : Value} {n : Nat} {xs : List Value} (h : w.ownsRow base e size v n xs) (u : Upd lo hi w w') (hd : hi ≤ base ∨ hi ≤ lo) : w'.ownsRow base e size v n xs := by
  refine ⟨h.1, ?_⟩
  rcases h.2 with hn | ⟨g, cap, cur, rfl, hb, hg, r⟩
  · exact .inl hn
  · refine .inr ⟨g, cap, cur, rfl, hb, ?_, r⟩
    rw [u.block g (Array.getElem?_eq_some_iff.1 hg).1 (by omega)]
    exact hg
/-- the block of an owned row lies from base on -/
theorem owns_block {w : World} {base e size : Nat} {v : Value} {n : Nat} {xs : List Value} (h : w.ownsRow base e size v n xs) : ∀ k, v.ownBlock = some k → base ≤ k := fun k hk => (h.lt k hk).1
/-- a slice's capacity -/
def Cap (n cap : Nat) : Prop := n ≤ cap ∧ cap ≤ 9223372036854775807
theorem owns_form {w : World} {base e size : Nat} {v : Value} {n : Nat} {xs : List Value} (h : w.ownsRow base e size v n xs) : ∃ a cap, v = .slice a n cap ∧ Cap n cap := by
  rcases h.2 with ⟨hv, h0⟩ | ⟨g, cap, cur, hv, hb, _, h1, h2, _⟩
  · exact ⟨none, 0, by rw [hv, h0], by omega, by omega⟩
  · exact ⟨_, cap, hv, h1, h2⟩
theorem owns_cap {w : World} {base e size : Nat} {a : Option Addr} {n n' cap : Nat} {xs : List Value} (h : w.ownsRow base e size (.slice a n cap) n' xs) : Cap n cap := by
  rcases h.2 with ⟨hv, h0⟩ | ⟨g, cap', cur, hv, hb, _, h1, h2, _⟩
  · simp only [Value.slice.injEq] at hv
    obtain ⟨_, rfl, rfl⟩ := hv
    exact ⟨by omega, by omega⟩
  · simp only [Value.slice.injEq] at hv
    obtain ⟨_, rfl, rfl⟩ := hv
    exact ⟨h1, h2⟩
theorem owns_shape {w : World} {base e size : Nat} {v : Value} {n : Nat} {xs : List Value} (h : w.ownsRow base e size v n xs) (hn : 1 ≤ n) : ∃ g cap, v = .slice (some ⟨g, 0, none⟩) n cap ∧ base ≤ g ∧ n ≤ cap ∧ cap ≤ 9223372036854775807 := by
  rcases h.2 with ⟨_, h0⟩ | ⟨g, cap, cur, hv, hb, _, h1, h2, _⟩
  · omega
  · exact ⟨g, cap, hv, hb, h1, h2⟩
/-- []int{} -/
theorem owns_empty (w : World) (base e size : Nat) (hb : base ≤ w.heap.size) : (w.alloc (.cells #[] e)).ownsRow base e size (.slice (some ⟨w.heap.size, 0, none⟩) 0 0) 0 [] :=
  World.ownsRow_made w #[] 0 hb (Nat.zero_le _) (by simp)
/-- the values vs are slices that read as the lists ll -/
def Rws (w : World) (lo hi : Nat) (vs : List Value) (ll : List (List Int)) : Prop :=
  vs.length = ll.length ∧ ∀ j, j < ll.length → ∃ aj cj, vs[j]? = some (.slice aj (ll.getD j []).length cj) ∧ Ints w lo hi aj (ll.getD j []) ∧ IntBlk w aj (ll.getD j [])
/-- a slice of slices of ints that the call itself has made -/
def OwnLists (w : World) (lo hi : Nat) (v : Value) (ll : List (List Int)) : Prop := ∃ vs, w.ownsRow lo 31 1 v ll.length vs ∧ Rws w lo hi vs ll

theorem rws_nil (w : World) (lo hi : Nat) : Rws w lo hi [] [] := ⟨rfl, fun j hj => by simp at hj⟩
theorem Rws.upd {w w' : World} {lo hi lo' hi' : Nat} {vs : List Value} {ll : List (List Int)} (h : Rws w lo hi vs ll) (u : Upd lo' hi' w w') (hd : hi ≤ lo' ∨ hi' ≤ lo ∨ hi' ≤ lo') : Rws w' lo hi vs ll :=
  ⟨h.1, fun j hj => by
    obtain ⟨aj, cj, h1, h2, h3⟩ := h.2 j hj
    exact ⟨aj, cj, h1, h2.upd u hd, IntBlk.upd (lo' := 0) (hi' := 0) h3 h2 u hd⟩⟩
theorem Rws.wide {w : World} {lo hi lo' hi' : Nat} {vs : List Value} {ll : List (List Int)} (h : Rws w lo hi vs ll) (h1 : lo' ≤ lo) (h2 : hi ≤ hi') : Rws w lo' hi' vs ll :=
  ⟨h.1, fun j hj => by
    obtain ⟨aj, cj, k1, k2, k3⟩ := h.2 j hj
    exact ⟨aj, cj, k1, k2.wide h1 h2, k3⟩⟩
/-- the rows are kept where the slice of slices itself is turned: its block was made for other values -/
theorem Rws.grown {w w' : World} {lo hi base size n : Nat} {vs xs : List Value} {v : Value} {ll : List (List Int)} {t : TypeId} (h : Rws w lo hi vs ll) (hown : w.ownsRow base t size v n xs) (ht : t ≠ 3) (hg : w.grownBy w' v.ownBlock) : Rws w' lo hi vs ll := by
  refine ⟨h.1, fun j hj => ?_⟩
  obtain ⟨aj, cj, k1, k2, k3⟩ := h.2 j hj
  have hne : ∀ b off, ll.getD j [] ≠ [] → aj = some ⟨b, off, none⟩ → some b ≠ v.ownBlock := fun b off hl ha e => by
    obtain ⟨c, hc⟩ := k3 hl b off ha
    rcases hown.2 with ⟨rfl, _⟩ | ⟨g, cap, cur, rfl, _, hgg, _⟩
    · simp [Value.ownBlock] at e
    · simp only [Value.ownBlock, Option.some.injEq] at e
      subst e
      rw [hgg] at hc
      simp only [Option.some.injEq, Obj.cells.injEq] at hc
      exact ht hc.2.1
  refine ⟨aj, cj, k1, ⟨fun hl => ?_, k2.len, k2.ok⟩, fun hl b off ha => ?_⟩
  · obtain ⟨b, off, ha, q1, q2, q3⟩ := k2.cells hl
    exact ⟨b, off, ha, q1, q2, fun i hi' => hg.cell (q3 i hi') (hne b off hl ha)⟩
  · obtain ⟨c, hc⟩ := k3 hl b off ha
    exact ⟨c, by rw [hg.block b (Array.getElem?_eq_some_iff.1 hc).1 (hne b off hl ha)]; exact hc⟩
theorem Rws.snoc {w : World} {lo hi : Nat} {vs : List Value} {ll : List (List Int)} (h : Rws w lo hi vs ll) {a : Option Addr} {cap : Nat} {l : List Int} (hi' : Ints w lo hi a l) (hb : IntBlk w a l) : Rws w lo hi (vs ++ [.slice a l.length cap]) (ll ++ [l]) := by
  refine ⟨by simp [h.1], fun j hj => ?_⟩
  by_cases hlt : j < ll.length
  · obtain ⟨aj, cj, k1, k2, k3⟩ := h.2 j hlt
    have e : (ll ++ [l]).getD j [] = ll.getD j [] := by rw [List.getD_eq_getElem?_getD, List.getD_eq_getElem?_getD, List.getElem?_append_left hlt]
    rw [e]
    exact ⟨aj, cj, by rw [List.getElem?_append_left (by rw [h.1]; exact hlt)]; exact k1, k2, k3⟩
  · have hjl : j = ll.length := by simp at hj; omega
    subst hjl
    have e : (ll ++ [l]).getD ll.length [] = l := by rw [List.getD_eq_getElem?_getD, List.getElem?_append_right (Nat.le_refl _)]; simp
    rw [e]
    exact ⟨a, cap, by rw [List.getElem?_append_right (by rw [h.1]; exact Nat.le_refl _), h.1]; simp, hi', hb⟩
theorem Rws.set {w : World} {lo hi : Nat} {vs : List Value} {ll : List (List Int)} (h : Rws w lo hi vs ll) {a : Option Addr} {cap : Nat} {l : List Int} (hi' : Ints w lo hi a l) (hb : IntBlk w a l) (k : Nat) : Rws w lo hi (vs.set k (.slice a l.length cap)) (ll.set k l) := by
  refine ⟨by simp [h.1], fun j hj => ?_⟩
  have hj' : j < ll.length := by simpa using hj
  by_cases hjk : k = j
  · subst hjk
    have e : (ll.set k l).getD k [] = l := by rw [List.getD_eq_getElem?_getD, List.getElem?_set_self hj']; rfl
    rw [e]
    exact ⟨a, cap, List.getElem?_set_self (by rw [h.1]; exact hj'), hi', hb⟩
  · obtain ⟨aj, cj, k1, k2, k3⟩ := h.2 j hj'
    have e : (ll.set k l).getD j [] = ll.getD j [] := by rw [List.getD_eq_getElem?_getD, List.getD_eq_getElem?_getD, List.getElem?_set_ne hjk]
    rw [e]
    exact ⟨aj, cj, by rw [List.getElem?_set_ne hjk]; exact k1, k2, k3⟩
/-- a slice of slices of the call's own reads as a list of lists -/
theorem lists_of_owns {w : World} {lo hi : Nat} {v : Value} {ll : List (List Int)} (h : OwnLists w lo hi v ll) (hlen : ll.length ≤ 9223372036854775807) (hh : w.heap.size ≤ hi) : ∃ a cap, v = .slice a ll.length cap ∧ Lists w lo hi a ll := by
  obtain ⟨vs, hown, hr⟩ := h
  rcases hown.2 with ⟨rfl, h0⟩ | ⟨g, cap, cur, rfl, hb, hg, h1, h2, h3, h4⟩
  · have : ll = [] := List.eq_nil_of_length_eq_zero h0
    subst this
    exact ⟨none, 0, rfl, Lists.nil _ _ _ _⟩
  · refine ⟨some ⟨g, 0, none⟩, cap, rfl, ⟨fun _ => ⟨g, 0, rfl, hb, Nat.lt_of_lt_of_le (Array.getElem?_eq_some_iff.1 hg).1 hh, fun j hj => ?_⟩, hlen⟩⟩
    have h5 := hown.cellAt j (by simpa using hj)
    obtain ⟨aj, cj, k1, k2, _⟩ := hr.2 j hj
    exact ⟨aj, cj, by rw [Nat.zero_add, h5, k1], k2⟩
/-- the cells of a slice of slices that came in, as a list of values -/
def RwsR (w : World) (lo hi : Nat) (vs : List Value) (ll : List (List Int)) : Prop :=
  vs.length = ll.length ∧ ∀ j, j < ll.length → ∃ aj cj, vs[j]? = some (.slice aj (ll.getD j []).length cj) ∧ Ints w lo hi aj (ll.getD j [])
theorem RwsR.upd {w w' : World} {lo hi lo' hi' : Nat} {vs : List Value} {ll : List (List Int)} (h : RwsR w lo hi vs ll) (u : Upd lo' hi' w w') (hd : hi ≤ lo' ∨ hi' ≤ lo ∨ hi' ≤ lo') : RwsR w' lo hi vs ll :=
  ⟨h.1, fun j hj => by
    obtain ⟨aj, cj, h1, h2⟩ := h.2 j hj
    exact ⟨aj, cj, h1, h2.upd u hd⟩⟩
theorem RwsR.snoc {w : World} {lo hi : Nat} {vs : List Value} {ll : List (List Int)} (h : RwsR w lo hi vs ll) {a : Option Addr} {cap : Nat} {l : List Int} (hi' : Ints w lo hi a l) : RwsR w lo hi (vs ++ [.slice a l.length cap]) (ll ++ [l]) := by
  refine ⟨by simp [h.1], fun j hj => ?_⟩
  by_cases hlt : j < ll.length
  · obtain ⟨aj, cj, k1, k2⟩ := h.2 j hlt
    have e : (ll ++ [l]).getD j [] = ll.getD j [] := by rw [List.getD_eq_getElem?_getD, List.getD_eq_getElem?_getD, List.getElem?_append_left hlt]
    rw [e]
    exact ⟨aj, cj, by rw [List.getElem?_append_left (by rw [h.1]; exact hlt)]; exact k1, k2⟩
  · have hjl : j = ll.length := by simp at hj; omega
    subst hjl
    have e : (ll ++ [l]).getD ll.length [] = l := by rw [List.getD_eq_getElem?_getD, List.getElem?_append_right (Nat.le_refl _)]; simp
    rw [e]
    exact ⟨a, cap, by rw [List.getElem?_append_right (by rw [h.1]; exact Nat.le_refl _), h.1]; simp, hi'⟩
theorem Lists.values {w : World} {lo hi : Nat} {a : Option Addr} {ll : List (List Int)} (h : Lists w lo hi a ll) (hl : 1 ≤ ll.length) :
    ∃ b off vs, a = some ⟨b, off, none⟩ ∧ RwsR w lo hi vs ll ∧ ∀ j u, vs[j]? = some u → w.cell? ((⟨b, off, none⟩ : Addr).add j) = some u := by
  obtain ⟨b, off, ha, h1, h2, h3⟩ := h.cells (by rintro rfl; simp at hl)
  refine ⟨b, off, (List.range ll.length).map fun j => (w.cell? ⟨b, off + j, none⟩).getD undef, ha, ⟨by simp, fun j hj => ?_⟩, fun j u hu => ?_⟩
  · obtain ⟨aj, cj, k1, k2⟩ := h3 j hj
    exact ⟨aj, cj, by rw [List.getElem?_map, List.getElem?_range hj]; simp [k1], k2⟩
  · have hj : j < ll.length := by
      have := (List.getElem?_eq_some_iff.1 hu).1
      simpa using this
    obtain ⟨aj, cj, k1, k2⟩ := h3 j hj
    rw [List.getElem?_map, List.getElem?_range hj] at hu
    rw [add_none, k1]
    simpa [k1] using hu
theorem lists_of_vals {w : World} {base lo hi : Nat} {v : Value} {vs : List Value} {ll : List (List Int)} (hown : w.ownsRow base 31 1 v ll.length vs) (hr : RwsR w lo hi vs ll) (hlen : ll.length ≤ 9223372036854775807) (hlo : lo ≤ base) (hh : w.heap.size ≤ hi) :
    ∃ a cap, v = .slice a ll.length cap ∧ Lists w lo hi a ll := by
  rcases hown.2 with ⟨rfl, h0⟩ | ⟨g, cap, cur, rfl, hb, hg, h1, h2, h3, h4⟩
  · have : ll = [] := List.eq_nil_of_length_eq_zero h0
    subst this
    exact ⟨none, 0, rfl, Lists.nil _ _ _ _⟩
  · refine ⟨some ⟨g, 0, none⟩, cap, rfl, ⟨fun _ => ⟨g, 0, rfl, by omega, Nat.lt_of_lt_of_le (Array.getElem?_eq_some_iff.1 hg).1 hh, fun j hj => ?_⟩, hlen⟩⟩
    have h5 := hown.cellAt j (by simpa using hj)
    obtain ⟨aj, cj, k1, k2⟩ := hr.2 j hj
    exact ⟨aj, cj, by rw [Nat.zero_add, h5, k1], k2⟩
theorem RwsR.wide {w : World} {lo hi lo' hi' : Nat} {vs : List Value} {ll : List (List Int)} (h : RwsR w lo hi vs ll) (h1 : lo' ≤ lo) (h2 : hi ≤ hi') : RwsR w lo' hi' vs ll :=
  ⟨h.1, fun j hj => by
    obtain ⟨aj, cj, k1, k2⟩ := h.2 j hj
    exact ⟨aj, cj, k1, k2.wide h1 h2⟩⟩
theorem RwsR.oneCells {w : World} {lo hi : Nat} {vs : List Value} {ll : List (List Int)} (h : RwsR w lo hi vs ll) : ∀ u ∈ vs, u.oneCell' = true := fun u hu => by
  obtain ⟨j, hj, rfl⟩ := List.getElem_of_mem hu
  obtain ⟨aj, cj, k1, _⟩ := h.2 j (by rw [← h.1]; exact hj)
  rw [List.getElem?_eq_getElem hj] at k1
  simp only [Option.some.injEq] at k1
  rw [k1]
  rfl
end Go.Proofs.Ytlammenejgagdaa
