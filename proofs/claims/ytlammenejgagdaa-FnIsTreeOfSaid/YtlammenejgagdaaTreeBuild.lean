/-
  The walk of the program's buildTree and of the closure in it: the nodes of the tree of some items.
-/
import Derived.Test.YtlammenejgagdaaTreeSortI
import Derived.Test.YtlammenejgagdaaTreeGrow
namespace Go.Proofs.Ytlammenejgagdaa
open Go.RowKit
set_option linter.unusedVariables false

/-- a variable in a block of its own -/
def BoxB (w : World) (b : Nat) (v : Value) (t : TypeId) : Prop := w.heap[b]? = some (.cells #[v] t (0, 0))
section
variable {w w' : World} {b : Nat} {v : Value} {t : TypeId}
theorem BoxB.cell (h : BoxB w b v t) : w.cell? ⟨b, 0, none⟩ = some v := by unfold BoxB at h; simp [World.cell?, h]
theorem BoxB.fz (h : BoxB w b v t) (o : Nat) : w.frozen? ⟨b, o, none⟩ = false := by unfold BoxB at h; simp [World.frozen?, h]
theorem BoxB.lt (h : BoxB w b v t) : b < w.heap.size := (Array.getElem?_eq_some_iff.1 h).1
theorem BoxB.set (h : BoxB w b v t) (u : Value) : BoxB (w.setCell ⟨b, 0, none⟩ u) b u t := by unfold BoxB at *; simp [World.setCell, Array.getElem?_modify, h]
theorem BoxB.block (h : BoxB w b v t) (e : w'.heap[b]? = w.heap[b]?) : BoxB w' b v t := by unfold BoxB at *; rw [e, h]
theorem BoxB.below (h : BoxB w b v t) (u : Below w.heap.size w w') : BoxB w' b v t := h.block (u.block b h.lt)
theorem BoxB.drawn (h : BoxB w b v t) (u : Drawn w w') : BoxB w' b v t := h.below u.below
theorem BoxB.upd {lo hi : Nat} (h : BoxB w b v t) (u : Upd lo hi w w') (hb : b < lo ∨ hi ≤ b) : BoxB w' b v t := h.block (u.block b h.lt hb)
theorem BoxB.not {t' : TypeId} (h : BoxB w b v t) (ht : t ≠ t') : ∀ c, w.heap[b]? ≠ some (.cells c t' (0, 0)) := fun c e => by
  unfold BoxB at h
  rw [h] at e
  simp only [Option.some.injEq, Obj.cells.injEq] at e
  exact ht e.2.1
theorem BoxB.keep {base : Nat} {t' : TypeId} {X : Nat → Prop} (h : BoxB w b v t) (k : Keep base t' X w w') (ht : t ≠ t') (hX : ¬ X b) : BoxB w' b v t := h.block (k.block b h.lt hX (.inr (h.not ht)))
theorem BoxB.new (w : World) (v : Value) (t : TypeId) : BoxB (w.alloc (.cells #[v] t)) w.heap.size v t := heap_alloc_new w _
end
/-- the cells of items, in a row -/
theorem ItemsB.vals {w : World} {base : Nat} {ad : Addr} {ll : List It} (h : ItemsB w base (some ad) ll) : ∃ L : List Itv, L.map Itv.it = ll ∧ ItvOk w 0 base L ∧ ∀ j u, (flatI L)[j]? = some u → w.cell? (ad.add j) = some u := by
  by_cases hne : ll = []
  · subst hne
    exact ⟨[], rfl, (fun v hv => by cases hv), fun j u hu => by simp [flatI] at hu⟩
  · obtain ⟨b, off, ha, h1, h2, h3⟩ := h.cells hne
    simp only [Option.some.injEq] at ha
    subst ha
    have hch : ∀ j : Nat, ∃ p : Option Addr × Nat, j < ll.length → w.cell? ⟨b, off + j * 3, none⟩ = some (.int .i64 (ll.getD j It.no).key) ∧ w.cell? ⟨b, off + j * 3 + 1, none⟩ = some (.slice p.1 (ll.getD j It.no).pos.length p.2) ∧ w.cell? ⟨b, off + j * 3 + 2, none⟩ = some (.int .i64 (ll.getD j It.no).tags) ∧ ItV w 0 base (ll.getD j It.no) p.1 p.2 := fun j => by
      by_cases hj : j < ll.length
      · obtain ⟨aj, cj, q⟩ := h3 j hj
        exact ⟨(aj, cj), fun _ => q⟩
      · exact ⟨(none, 0), fun e => absurd e hj⟩
    obtain ⟨f, hf⟩ := Classical.axiomOfChoice hch
    have hlen : ((List.range ll.length).map fun j => (⟨ll.getD j It.no, (f j).1, (f j).2⟩ : Itv)).length = ll.length := by simp
    have hget : ∀ j, j < ll.length → ((List.range ll.length).map fun j => (⟨ll.getD j It.no, (f j).1, (f j).2⟩ : Itv)).getD j Itv.no = ⟨ll.getD j It.no, (f j).1, (f j).2⟩ := fun j hj => by
      rw [List.getD_eq_getElem?_getD, List.getElem?_map, List.getElem?_range hj]; rfl
    refine ⟨(List.range ll.length).map fun j => ⟨ll.getD j It.no, (f j).1, (f j).2⟩, ?_, ?_, ?_⟩
    · refine List.ext_getElem (by simp) fun j k1 k2 => ?_
      simp only [List.getElem_map, List.getElem_range]
      rw [List.getD_eq_getElem?_getD, List.getElem?_eq_getElem k2]; rfl
    · intro v hv
      obtain ⟨j, hj, rfl⟩ := List.mem_map.1 hv
      exact (hf j (List.mem_range.1 hj)).2.2.2
    · intro j u hu
      have hj : j < ll.length * 3 := by
        have := (List.getElem?_eq_some_iff.1 hu).1
        rwa [flatI_length, hlen] at this
      have hq : j / 3 < ll.length := by omega
      obtain ⟨c0, c1, c2, -⟩ := hf (j / 3) hq
      rw [add_none]
      rcases (show j = j / 3 * 3 ∨ j = j / 3 * 3 + 1 ∨ j = j / 3 * 3 + 2 by omega) with e | e | e
      · rw [e, flatI_0 (by rw [hlen]; exact hq), hget _ hq] at hu
        rw [e, c0, ← hu]
      · rw [e, flatI_1 (by rw [hlen]; exact hq), hget _ hq] at hu
        rw [e, ← Nat.add_assoc, c1, ← hu]
      · rw [e, flatI_2 (by rw [hlen]; exact hq), hget _ hq] at hu
        rw [e, ← Nat.add_assoc, c2, ← hu]
/-- a row of the call's own lies in its block -/
theorem owns_same {w w' : World} {base e size g c n n' : Nat} {xs : List Value} (h : w.ownsRow base e size (.slice (some ⟨g, 0, none⟩) n c) n' xs) (eq : w'.heap[g]? = w.heap[g]?) : w'.ownsRow base e size (.slice (some ⟨g, 0, none⟩) n c) n' xs := by
  refine ⟨h.1, ?_⟩
  rcases h.2 with hn | ⟨g', cap, cur, hv, hb, hg, r⟩
  · exact .inl hn
  · simp only [Value.slice.injEq, Option.some.injEq, Addr.mk.injEq] at hv
    obtain ⟨⟨rfl, _⟩, rfl, rfl⟩ := hv
    exact .inr ⟨g, _, cur, rfl, hb, by rw [eq]; exact hg, r⟩
theorem owns_type {w : World} {base e size g c n n' : Nat} {xs : List Value} (h : w.ownsRow base e size (.slice (some ⟨g, 0, none⟩) n c) n' xs) : ∃ cur, w.heap[g]? = some (.cells cur e (0, 0)) := by
  rcases h.2 with ⟨hv, _⟩ | ⟨g', cap, cur, hv, hb, hg, r⟩
  · cases hv
  · simp only [Value.slice.injEq, Option.some.injEq, Addr.mk.injEq] at hv
    obtain ⟨⟨rfl, _⟩, rfl, rfl⟩ := hv
    exact ⟨cur, hg⟩
theorem owns_box {w : World} {base e size g c n n' b : Nat} {xs : List Value} {v : Value} {t : TypeId} (h : w.ownsRow base e size (.slice (some ⟨g, 0, none⟩) n c) n' xs) (hb : BoxB w b v t) (ht : t ≠ e) : g ≠ b := fun eq => by
  subst eq
  obtain ⟨cur, hc⟩ := owns_type h
  exact hb.not ht _ hc
/-- 'append(s, x...)' onto a slice of the call's own that is not nil -/
theorem appendS {P : Program} {ops : Array Oper} {rest : List Oper} {o : Oper} {a : Act} {Q : Exit → Act → World → Prop} {wq : World} (hgd : o.guard = none) (s x : Operand) (t : TypeId)
    (ho : o.op = .call { callee := .builtin .append, args := #[s, x], argTypes := #[t, t] }) (base : Nat) (e : TypeId) {z : Value} {size bytes : Nat} (ht : P.underlying t = some (.slice e))
    (hinfo : (P.info? e).map (fun i => (i.zero, i.size, i.bytes)) = some (some z, size, bytes)) (hzs : z.cells.size = size) (hsz : 0 < size) (hby : bytes ≤ 64)
    (g0 n cap0 : Nat) (xs : List Value) (hs : a.eval s = .slice (some ⟨g0, 0, none⟩) n cap0) (hown : wq.ownsRow base e size (.slice (some ⟨g0, 0, none⟩) n cap0) n xs) (ad : Addr) (m c : Nat) (news : List Value) (hx : a.eval x = .slice (some ad) m c)
    (hl : news.length = m * size) (hnews : ∀ j u, news[j]? = some u → wq.cell? (ad.add j) = some u) (h1 : ∀ u ∈ news, u.oneCell' = true) (hn : n + m ≤ 1099511627775) (hbase : base ≤ wq.heap.size)
    (h : ∀ g cap w', w'.ownsRow base e size (.slice (some ⟨g, 0, none⟩) (n + m) cap) (n + m) (xs ++ news) → (base ≤ g ∧ n + m ≤ cap ∧ cap ≤ 9223372036854775807) → wq.grownBy w' (some g0) → wpList P ops Q rest (a.put o.dst (.slice (some ⟨g, 0, none⟩) (n + m) cap)) w') : wpList P ops Q (o :: rest) a wq := by
  obtain ⟨i, hi, hz, hi1, hi2⟩ := info_parts hinfo
  refine wpList_append_own wq hgd s x t ho base e i z size bytes ht hi hz hi1 hi2 hzs hsz _ n xs hs hown ad m c news hx hl hnews h1 ?_ ?_ hbase (fun v' w' k1 k2 k3 => ?_)
  · unfold maxLen; omega
  · have : (n + m) * bytes ≤ 1099511627776 * 64 := Nat.mul_le_mul (by omega) hby
    omega
  · rcases k1.2 with ⟨hv, _⟩ | ⟨g, cap, cur, rfl, hb, _, q1, q2, _⟩
    · have := (k3.1 hv).1
      cases this
    · exact h g cap w' k1 ⟨hb, q1, q2⟩ k2
/-- a tree on its way: the k nodes so far, in the row g; the closure's variables -/
structure BuildAt (w : World) (base K B F g c : Nat) (kind : Int) (k : Nat) (ns : List Nd) : Prop where
  len : ns.length = k
  row : w.ownsRow base 46 4 (.slice (some ⟨g, 0, none⟩) k c) k (flatN ns)
  nod : BoxB w B (.slice (some ⟨g, 0, none⟩) k c) 23
  knd : BoxB w K (.int .i64 kind) 3
  bld : BoxB w F (.func (.func 49) #[] #[.pointer (some ⟨K, 0, none⟩), .pointer (some ⟨B, 0, none⟩), .pointer (some ⟨F, 0, none⟩)]) 69
theorem BuildAt.below {w w' : World} {base K B F g c k : Nat} {kind : Int} {ns : List Nd} (h : BuildAt w base K B F g c kind k ns) (u : Below w.heap.size w w') : BuildAt w' base K B F g c kind k ns :=
  ⟨h.len, owns_upd h.row (Upd.of_below (lo := 0) (hi := 0) u) (by omega), h.nod.below u, h.knd.below u, h.bld.below u⟩
/-- another node, in the row g' -/
theorem BuildAt.snoc {w w1 : World} {base K B F g c g' c' k : Nat} {kind : Int} {ns : List Nd} {nd : Nd} (h : BuildAt w base K B F g c kind k ns) (hKB : K ≠ B) (hFB : F ≠ B) (ho : w1.ownsRow base 46 4 (.slice (some ⟨g', 0, none⟩) (k + 1) c') (k + 1) (flatN ns ++ ndCells nd)) (hg : w.grownBy w1 (some g)) :
    BoxB w1 B (.slice (some ⟨g, 0, none⟩) k c) 23 ∧ BuildAt (w1.setCell ⟨B, 0, none⟩ (.slice (some ⟨g', 0, none⟩) (k + 1) c')) base K B F g' c' kind (k + 1) (ns ++ [nd]) ∧ Keep base 46 (fun k => k = B) w (w1.setCell ⟨B, 0, none⟩ (.slice (some ⟨g', 0, none⟩) (k + 1) c')) := by
  have eB : w1.heap[B]? = w.heap[B]? := hg.block B h.nod.lt (fun e => owns_box h.row h.nod (by decide) (Option.some.inj e.symm))
  have eK : w1.heap[K]? = w.heap[K]? := hg.block K h.knd.lt (fun e => owns_box h.row h.knd (by decide) (Option.some.inj e.symm))
  have eF : w1.heap[F]? = w.heap[F]? := hg.block F h.bld.lt (fun e => owns_box h.row h.bld (by decide) (Option.some.inj e.symm))
  have b1 := h.nod.block eB
  have hne : g' ≠ B := owns_box ho b1 (by decide)
  have u := upd_set w1 B 0 (.slice (some ⟨g', 0, none⟩) (k + 1) c')
  refine ⟨b1, ⟨by rw [List.length_append, h.len]; rfl, ?_, b1.set _, (h.knd.block eK).upd u (by omega), (h.bld.block eF).upd u (by omega)⟩, (Keep.own h.row hg).trans (Keep.exc rfl u)⟩
  rw [flatN_app, flatN_one]
  exact owns_same ho (u.block g' (ho.lt g' rfl).2 (by omega))
/-- one node is changed in one of its numbers -/
theorem BuildAt.mend {w : World} {base K B F g c k n : Nat} {kind : Int} {ns T : List Nd} {nd nd' : Nd} {u : Value} (h : BuildAt w base K B F g c kind n (ns ++ nd :: T)) (hk : ns.length = k) (d : Nat) (hd : d < 4) (hnd : ndCells nd' = (ndCells nd).set d u) :
    BuildAt (w.setCell ⟨g, k * 4 + d, none⟩ u) base K B F g c kind n (ns ++ nd' :: T) ∧ Keep base 46 (fun k => k = B) w (w.setCell ⟨g, k * 4 + d, none⟩ u) := by
  subst hk
  have us := upd_set w g (ns.length * 4 + d) u
  have nB : g ≠ B := owns_box h.row h.nod (by decide)
  have nK : g ≠ K := owns_box h.row h.knd (by decide)
  have nF : g ≠ F := owns_box h.row h.bld (by decide)
  refine ⟨⟨by rw [← h.len]; simp, ?_, h.nod.upd us (by omega), h.knd.upd us (by omega), h.bld.upd us (by omega)⟩, Keep.upd h.row us⟩
  have := (h.row.stored (ns.length * 4 + d) u).1
  rw [flatN_mid ns T d hd hnd] at this
  exact this
/-- a node's number, in its cell -/
theorem BuildAt.cell {w : World} {base K B F g c k n : Nat} {kind : Int} {ns T : List Nd} {nd : Nd} (h : BuildAt w base K B F g c kind n (ns ++ nd :: T)) (hk : ns.length = k) (d : Nat) (hd : d < 4) : w.cell? ⟨g, k * 4 + d, none⟩ = (ndCells nd)[d]? ∧ w.frozen? ⟨g, k * 4 + d, none⟩ = false := by
  subst hk
  have hnl : ns.length < (ns ++ nd :: T).length := by simp
  have hn := h.len
  have e := h.row.cellAt (ns.length * 4 + d) (by omega)
  rw [flatN_cell d hd hnl, List.getD_eq_getElem?_getD, List.getElem?_append_right (Nat.le_refl _), Nat.sub_self] at e
  exact ⟨e, h.row.frozenAt _⟩
def BuildPost (w : World) (base K B F : Nat) (kind : Int) (n : Nat) (R : List Nd) (top : Int) (e : Ending) (w' : World) : Prop :=
  ∃ g c, e = .returned (.int .i64 top) ∧ BuildAt w' base K B F g c kind n R ∧ Keep base 46 (fun k => k = B) w w'
/-- a tree's nodes: the top, those of Near, those of Far -/
theorem nds_both {kind : Int} {x : It} {xs : List It} {ns : List Nd} {k H : Nat} (hm : hf xs.length = H) :
    ns ++ (tr kind (x :: xs)).nds k = ns ++ ⟨x.key, rad kind x xs, (tr kind ((byD kind x.pos xs).take H)).top (k + 1), (tr kind ((byD kind x.pos xs).drop H)).top (k + 1 + H)⟩ :: ((tr kind ((byD kind x.pos xs).take H)).nds (k + 1) ++ (tr kind ((byD kind x.pos xs).drop H)).nds (k + 1 + H)) := by
  have h1 := hf_le xs.length
  have e : ∀ r a b, (Tr.node x r a b).nds k = ⟨x.key, r, a.top (k + 1), b.top (k + 1 + a.size)⟩ :: (a.nds (k + 1) ++ b.nds (k + 1 + a.size)) := fun _ _ _ => rfl
  rw [tr_cons, hm, e, tr_size, List.length_take, rst_length, Nat.min_eq_left (by omega)]
  rfl
set_option maxRecDepth 4000 in
set_option maxHeartbeats 8000000 in
theorem build_any (kind : Int) (base K B F : Nat) (hbB : base ≤ B) (hKB : K ≠ B) (hFB : F ≠ B) : ∀ (n : Nat) (ll : List It), ll.length ≤ n → ∀ (w : World) (g c cap k : Nat) (a : Option Addr) (ns : List Nd), BuildAt w base K B F g c kind k ns → ItemsB w base a ll → Cap ll.length cap → base ≤ w.heap.size → (∀ x ∈ ll, vecB x.pos 4 = true) → (ll.Pairwise fun a b => a.key ≠ b.key) → k + ll.length ≤ 1000 →
    Calls Try.prog 49 #[.slice a ll.length cap, .pointer (some ⟨K, 0, none⟩), .pointer (some ⟨B, 0, none⟩), .pointer (some ⟨F, 0, none⟩)] w (BuildPost w base K B F kind (k + ll.length) (ns ++ (tr kind ll).nds k) ((tr kind ll).top k)) := by
  intro n
  induction n with
  | zero =>
    intro ll hl w g c cap k a ns hA hI hc hb hv hp hn
    have h0 : ll = [] := List.eq_nil_of_length_eq_zero (by omega)
    subst h0
    have HF : Hid (BuildPost w base K B F kind (k + 0) (ns ++ (tr kind []).nds k) ((tr kind []).top k) (.returned (.int .i64 (-1))) w) := Lib.hid (by
      rw [tr_nil, show Tr.nil.nds k = [] from rfl, List.append_nil]
      exact ⟨g, c, rfl, hA, Keep.refl _ _ _ _⟩)
    clear hA hI hc hv hp
    show Calls Try.prog 49 #[.slice a 0 cap, .pointer (some ⟨K, 0, none⟩), .pointer (some ⟨B, 0, none⟩), .pointer (some ⟨F, 0, none⟩)] w _
    go_enter Try.func49, Try.ntmps49
    go_wp2_with fail
    go_ret
    exact HF.out
  | succ n ih =>
    intro ll hl w g c cap k a ns hA hI hc hb hv hp hn
    cases ll with
    | nil =>
      clear ih
      have HF : Hid (BuildPost w base K B F kind (k + 0) (ns ++ (tr kind []).nds k) ((tr kind []).top k) (.returned (.int .i64 (-1))) w) := Lib.hid (by
        rw [tr_nil, show Tr.nil.nds k = [] from rfl, List.append_nil]
        exact ⟨g, c, rfl, hA, Keep.refl _ _ _ _⟩)
      clear hA hI hc hv hp
      show Calls Try.prog 49 #[.slice a 0 cap, .pointer (some ⟨K, 0, none⟩), .pointer (some ⟨B, 0, none⟩), .pointer (some ⟨F, 0, none⟩)] w _
      go_enter Try.func49, Try.ntmps49
      go_wp2_with fail
      go_ret
      exact HF.out
    | cons x xs =>
      have IH := Lib.hid ih
      obtain ⟨bb, off, rfl, hbb, aj, cj, c0, c1, c2, hx⟩ := hI.at_ (k := 0) (by simp)
      rw [show (x :: xs).getD 0 It.no = x from rfl] at c0 c1 c2 hx
      rw [Nat.zero_mul, Nat.add_zero] at c0 c1 c2
      have vx := hv x (List.mem_cons_self ..)
      have hx4 : x.pos.length = 4 := by have := vecB_len vx; omega
      rw [hx4] at c1
      have HD := Lib.hid (hI.drop 1)
      rw [show (x :: xs).drop 1 = xs from rfl, Nat.one_mul] at HD
      have HA := Lib.hid hA
      have HVX := Lib.hid vx
      have HIX := Lib.hid hx
      have HVS : Hid (∀ y ∈ xs, vecB y.pos 4 = true) := Lib.hid fun y hy => hv y (List.mem_cons_of_mem _ hy)
      have HPW := Lib.hid (List.pairwise_cons.1 hp).2
      have hc1 := hc.1
      have hc2 := hc.2
      rw [List.length_cons] at hc1 hn hl ⊢
      obtain ⟨m, em⟩ : ∃ m, xs.length = m := ⟨_, rfl⟩
      have HM := Lib.hid em
      rw [em] at hc1 hn hl ⊢
      -- the top, in its place
      have HB1 := Lib.hid (below_alloc w (.cells #[.int .i64 x.key, .slice aj 4 cj, .int .i64 x.tags] 39))
      have HT1 : Hid (TopB (w.alloc (.cells #[.int .i64 x.key, .slice aj 4 cj, .int .i64 x.tags] 39)) w.heap.size x aj cj) := Lib.hid (heap_alloc_new w _)
      obtain ⟨W1, hW1⟩ : ∃ W1, w.alloc (.cells #[.int .i64 x.key, .slice aj 4 cj, .int .i64 x.tags] 39) = W1 := ⟨_, rfl⟩
      have hsz1 : W1.heap.size = w.heap.size + 1 := by rw [← hW1]; simp
      rw [hW1] at HB1 HT1
      have hm1 : (1 : Int) ≤ (m : Int) + 1 := by omega
      obtain ⟨sl, hif⟩ : ∃ sl : Option Addr, (if cap = 1 then some (⟨bb, off, none⟩ : Addr) else some ⟨bb, off + 3, none⟩) = sl := ⟨_, rfl⟩
      replace HD : Hid (ItemsB w base sl xs) := Lib.hid (by
        rw [← hif]
        split
        · rw [show xs = [] from List.eq_nil_of_length_eq_zero (by have := HM.out; omega)]
          exact ItemsB.nil _ _ _
        · exact HD.out)
      obtain ⟨ad, rfl⟩ : ∃ ad : Addr, sl = some ad := by
        rw [← hif]
        split
        · exact ⟨_, rfl⟩
        · exact ⟨_, rfl⟩
      obtain ⟨L, hL1, hL2, hL3⟩ := HD.out.vals
      have HL := Lib.hid (And.intro hL1 hL2)
      have HLM : Hid (L.length = m) := Lib.hid (by rw [← HM.out, ← hL1, List.length_map])
      have HE1 : Hid ((W1.alloc (.cells #[] 39)).ownsRow (w.heap.size + 1) 39 3 (.slice (some ⟨W1.heap.size, 0, none⟩) 0 0) 0 []) := Lib.hid (owns_empty W1 (w.heap.size + 1) 39 3 (by omega))
      have HB2 : Hid (Below w.heap.size w (W1.alloc (.cells #[] 39))) := Lib.hid (HB1.out.alloc (by omega) _)
      have HNW : Hid (∀ j u, (flatI L)[j]? = some u → (W1.alloc (.cells #[] 39)).cell? (ad.add j) = some u) := Lib.hid fun j u hj => cell_later HB2.out (hL3 j u hj)
      have HSZ := Lib.hid hsz1
      have HBA := Lib.hid hb
      clear hA hI hc hv hp hx vx hx4 hL1 hL2 hL3 em hsz1 hb ih
      go_enter Try.func49, Try.ntmps49
      go_wp2_with (at_builtin; refine appendS rfl _ _ 24 rfl (w.heap.size + 1) 39 Try.underlying24 infoItem rfl (by omega) (by omega) W1.heap.size 0 0 [] rfl HE1.out ad m (cap - 1) (flatI L) rfl (by rw [flatI_length, HLM.out]) HNW.out (flatI_cells _) (by omega) (by have := HSZ.out; simp; omega) ?_; intro gr cr w2 hown2 hgr hg2; have HO2 := Lib.hid hown2; have HGR := Lib.hid hgr; have HG2 := Lib.hid hg2; clear hown2 hgr hg2)
      have hHB := HSZ.out
      have HR2 : Hid (w2.ownsRow (w.heap.size + 1) 39 3 (.slice (some ⟨gr, 0, none⟩) m cr) m (flatI L)) := Lib.hid (by have h := HO2.out; rwa [Nat.zero_add, List.nil_append] at h)
      have HBW2 : Hid (Below w.heap.size w w2) := Lib.hid (HB2.out.grown HG2.out (by simp; omega) (fun q e => by have := Option.some.inj e; omega))
      have HT2 : Hid (TopB w2 w.heap.size x aj cj) := Lib.hid (by
        have e1 := HG2.out.block w.heap.size (by simp; omega) (fun e => by have := Option.some.inj e; omega)
        have e2 := (below_alloc W1 (.cells #[] 39)).block w.heap.size (by omega)
        exact e1.trans (e2.trans HT1.out))
      have hgr1 := HGR.out.1
      have hcr1 := HGR.out.2.1
      have hcr2 := HGR.out.2.2
      rw [Nat.zero_add] at hcr1
      have hKl := HA.out.knd.lt
      have hBl := HA.out.nod.lt
      have hbw := HBA.out
      have SO := Lib.hid (sortItems w2 (w.heap.size + 1) base gr m cr K w.heap.size kind x aj cj L HR2.out (by omega) (HL.out.2.below HBW2.out) (fun v hv => HVS.out v.it (by rw [← HL.out.1]; exact List.mem_map_of_mem hv)) (HIX.out.below HBW2.out).1 HVX.out (cell_later HBW2.out HA.out.knd.cell) (cells3_1 HT2.out) (by omega) (by omega) (by omega) (by
        have h := HPW.out
        rw [← HL.out.1] at h
        exact (List.pairwise_map (f := Itv.it) (R := fun a b : It => a.key ≠ b.key)).1 h))
      rw [HL.out.1] at SO
      refine SO.out.mono ?_
      rintro e w3 ⟨rfl, hu3, hi3⟩
      have HI3 := Lib.hid hi3
      have HB3 : Hid (Below w.heap.size w w3) := Lib.hid (HBW2.out.trans (hu3.low (by omega) HBW2.out.size))
      have HT3 : Hid (TopB w3 w.heap.size x aj cj) := Lib.hid ((hu3.block w.heap.size (by have := HT2.out; exact (Array.getElem?_eq_some_iff.1 this).1) (by omega)).trans HT2.out)
      have A3 := Lib.hid (HA.out.below HB3.out)
      have hs3 := HB3.out.size
      have nB := A3.out.nod.cell
      have t0 := cells3_0 HT3.out
      clear hHB hu3 hi3 SO HO2 HG2 HR2 HT2 HBW2 HGR HB2 HE1 HNW HT1 HB1 hif HD HLM HL hW1 c0 c1
      obtain ⟨H, eH⟩ : ∃ H, hf m = H := ⟨_, rfl⟩
      have hdv : Int.tdiv ((m : Int) + 1) 2 = (H : Int) := by rw [← eH]; exact half_tdiv m
      have hHm : H ≤ m := by rw [← eH]; exact hf_le m
      have hwH : IntKind.i64.wrap (H : Int) = (H : Int) := wrap_in (by omega)
      have HH := Lib.hid eH
      clear eH
      have HX3 : Hid (∀ q, q = B → base ≤ q ∧ ∀ c, w3.heap[q]? ≠ some (.cells c 39 (0, 0))) := Lib.hid fun q e => by subst e; exact ⟨hbB, A3.out.nod.not (by decide)⟩
      by_cases hH : H = 0
      · have hH0 : ¬ (0 : Int) < (H : Int) := by omega
        have HR0 : Hid (rad kind x xs = 0) := Lib.hid (by unfold rad; rw [HM.out, HH.out, hH]; rfl)
        clear hH
        go_wp2_with (at_builtin; refine append1 rfl _ _ 23 rfl base 46 Try.underlying23 infoNode rfl (by omega) (by omega) (.slice (some ⟨g, 0, none⟩) k c) k (flatN ns) rfl A3.out.row [.int .i64 x.key, .int .i64 0, .int .i64 0, .int .i64 0] rfl rfl (ndCells_one ⟨x.key, 0, 0, 0⟩) (by omega) (by omega) ?_; intro v4 w4 hown4 hg4; obtain ⟨g4, c4, rfl, hg40, hgc4, hgd4⟩ := owns_shape hown4 (by omega); have HS4 := Lib.hid (A3.out.snoc (nd := ⟨x.key, 0, 0, 0⟩) hKB hFB hown4 hg4); have nB4 := HS4.out.1.cell; have nF4 := HS4.out.1.fz 0; clear hown4 hg4)
        obtain ⟨w6, hw6⟩ : ∃ w6, w4.setCell ⟨B, 0, none⟩ (.slice (some ⟨g4, 0, none⟩) (k + 1) c4) = w6 := ⟨_, rfl⟩
        rw [hw6] at HS4 ⊢
        obtain ⟨r, er⟩ : ∃ r, rad kind x xs = r := ⟨_, rfl⟩
        have HR := Lib.hid er
        have BA6 : Hid (BuildAt w6 base K B F g4 c4 kind (k + 1) (ns ++ [⟨x.key, r, 0, 0⟩])) := Lib.hid (by rw [← er, HR0.out]; exact HS4.out.2.1)
        have HK36 : Hid (Keep base 46 (fun k => k = B) w3 w6) := Lib.hid HS4.out.2.2
        clear hw6 er HS4 nB4 nF4 nB t0 HR0
        have hs6 := HK36.out.size
        have hHc : (H : Int) ≤ (cr : Int) := by omega
        have hHi : (H : Int) ≤ (m : Int) := by omega
        have HI6 := Lib.hid (HI3.out.keep HK36.out (by decide) HX3.out (by omega))
        have HK6 := Lib.hid ((Keep.of_below HB3.out).trans HK36.out)
        have f6 := BA6.out.bld.cell
        have hlt : ((byD kind x.pos xs).take H).length = H := by rw [List.length_take, byD_length, HM.out]; omega
        have hpw : (byD kind x.pos xs).Pairwise fun a b => a.key ≠ b.key := (List.Perm.pairwise_iff (fun {a b} (h : a.key ≠ b.key) => Ne.symm h) (byD_perm kind x.pos xs)).2 HPW.out
        have IN := IH.out ((byD kind x.pos xs).take H) (by omega) w6.drew g4 c4 cr (k + 1) (some ⟨gr, 0, none⟩) (ns ++ [⟨x.key, r, 0, 0⟩]) (BA6.out.below (drawn_drew w6).below) ((HI6.out.below (drawn_drew w6).below).take H) ⟨by omega, hcr2⟩ (by show base ≤ w6.heap.size; omega) (fun z hz => HVS.out z (byD_mem.1 (List.mem_of_mem_take hz))) (hpw.sublist (List.take_sublist _ _)) (by omega)
        rw [hlt] at IN
        have HPB := Lib.hid hpw
        have HBT := Lib.hid (nds_both (kind := kind) (x := x) (xs := xs) (ns := ns) (k := k) (H := H) (by rw [HM.out]; exact HH.out))
        have HTL : Hid (((tr kind ((byD kind x.pos xs).take H)).nds (k + 1)).length = H) := Lib.hid (by rw [Tr.nds_length, tr_size, hlt])
        rw [HR.out] at HBT
        obtain ⟨T1, eT1⟩ : ∃ T, (tr kind ((byD kind x.pos xs).take H)).nds (k + 1) = T := ⟨_, rfl⟩
        obtain ⟨n1, en1⟩ : ∃ z, (tr kind ((byD kind x.pos xs).take H)).top (k + 1) = z := ⟨_, rfl⟩
        rw [eT1, en1] at IN HBT
        rw [eT1] at HTL
        have HIN := Lib.hid IN
        clear IN hlt hpw eT1 en1
        go_region_law (go_simp; go_at_call 49; refine HIN.out.mono ?_; rintro e w7 ⟨g7, c7, rfl, b7, k7⟩; have BA7 := Lib.hid b7; have HK67 := Lib.hid ((Keep.drawn (drawn_drew w6)).trans k7); clear b7 k7)
        all_goals (
          have hs7 := HK67.out.size
          have HX6 : Hid (∀ q, q = B → base ≤ q ∧ ∀ c, w6.heap[q]? ≠ some (.cells c 39 (0, 0))) := Lib.hid fun q e => by subst e; exact ⟨hbB, BA6.out.nod.not (by decide)⟩
          have HI7 := Lib.hid (HI6.out.keep HK67.out (by decide) HX6.out (by omega))
          have HK7 := Lib.hid (HK6.out.trans HK67.out)
          have f7 := BA7.out.bld.cell
          clear f6 HIN
          have hld : ((byD kind x.pos xs).drop H).length = m - H := by rw [List.length_drop, byD_length, HM.out]
          have IN2 : ∀ a' c', (a' = some ⟨gr, H * 3, none⟩ ∨ m - H = 0) → (m - H ≤ c' ∧ c' ≤ 9223372036854775807) → Calls Try.prog 49 #[.slice a' (m - H) c', .pointer (some ⟨K, 0, none⟩), .pointer (some ⟨B, 0, none⟩), .pointer (some ⟨F, 0, none⟩)] w7.drew (BuildPost w7.drew base K B F kind (k + 1 + H + (m - H)) (ns ++ [⟨x.key, r, 0, 0⟩] ++ T1 ++ (tr kind ((byD kind x.pos xs).drop H)).nds (k + 1 + H)) ((tr kind ((byD kind x.pos xs).drop H)).top (k + 1 + H))) := fun a' c' ha' hc' => by
            have HIB : ItemsB w7.drew base a' ((byD kind x.pos xs).drop H) := by
              rcases ha' with rfl | h0
              · have := (HI7.out.below (drawn_drew w7).below).drop H
                rwa [Nat.zero_add] at this
              · rw [List.eq_nil_of_length_eq_zero (hld.trans h0)]
                exact ItemsB.nil _ _ _
            have h := IH.out ((byD kind x.pos xs).drop H) (by omega) w7.drew g7 c7 c' (k + 1 + H) a' (ns ++ [⟨x.key, r, 0, 0⟩] ++ T1) (BA7.out.below (drawn_drew w7).below) HIB ⟨by omega, hc'.2⟩ (by show base ≤ w7.heap.size; omega) (fun z hz => HVS.out z (byD_mem.1 (List.mem_of_mem_drop hz))) (HPB.out.sublist (List.drop_sublist _ _)) (by omega)
            rw [hld] at h
            exact h
          obtain ⟨T2, eT2⟩ : ∃ T, (tr kind ((byD kind x.pos xs).drop H)).nds (k + 1 + H) = T := ⟨_, rfl⟩
          obtain ⟨n2, en2⟩ : ∃ z, (tr kind ((byD kind x.pos xs).drop H)).top (k + 1 + H) = z := ⟨_, rfl⟩
          rw [eT2, en2] at IN2 HBT
          have HIN := Lib.hid IN2
          clear IN2 hld eT2 en2
          go_wp2_with fail
          by_cases hcr : cr = H
          all_goals (
            go_region_law (go_simp; go_at_call 49; refine (HIN.out _ _ (by first | exact .inl rfl | exact .inr (by omega)) ⟨by omega, by omega⟩).mono ?_; rintro e w8 ⟨g8, c8, rfl, b8, k8⟩; have BA8 := Lib.hid b8; have HK8 := Lib.hid ((HK7.out.trans (Keep.drawn (drawn_drew w7))).trans k8); clear b8 k8)
            all_goals (
              have BA9 := BA8.out
              rw [show k + 1 + H + (m - H) = k + (m + 1) by omega, show ns ++ [(⟨x.key, r, 0, 0⟩ : Nd)] ++ T1 ++ T2 = ns ++ ⟨x.key, r, 0, 0⟩ :: (T1 ++ T2) by simp] at BA9
              have M1 := BA9.mend HA.out.len (nd' := ⟨x.key, r, n1, 0⟩) (u := .int .i64 n1) 2 (by omega) rfl
              have M2 := M1.1.mend HA.out.len (nd' := ⟨x.key, r, n1, n2⟩) (u := .int .i64 n2) 3 (by omega) rfl
              have d2 := (BA9.cell HA.out.len 2 (by omega)).1
              have z2 := (BA9.cell HA.out.len 2 (by omega)).2
              have d3 := (M1.1.cell HA.out.len 3 (by omega)).1
              have z3 := (M1.1.cell HA.out.len 3 (by omega)).2
              have b1 := BA9.nod.cell
              have b2 := M1.1.nod.cell
              replace d2 : w8.cell? ⟨g8, k * 4 + 2, none⟩ = some (.int .i64 0) := d2
              replace d3 : (w8.setCell ⟨g8, k * 4 + 2, none⟩ (.int .i64 n1)).cell? ⟨g8, k * 4 + 3, none⟩ = some (.int .i64 0) := d3
              have hgB : g8 ≠ B := owns_box BA9.row BA9.nod (by decide)
              have HF : Hid (BuildPost w base K B F kind (k + (m + 1)) (ns ++ (tr kind (x :: xs)).nds k) ((tr kind (x :: xs)).top k) (.returned (.int .i64 (k : Int))) ((w8.setCell ⟨g8, k * 4 + 2, none⟩ (.int .i64 n1)).setCell ⟨g8, k * 4 + 3, none⟩ (.int .i64 n2))) := Lib.hid (by
                rw [HBT.out, tr_cons]
                exact ⟨g8, c8, rfl, M2.1, (HK8.out.trans M1.2).trans M2.2⟩)
              have hkm : (k : Int) < (k : Int) + ((m : Int) + 1) := by omega
              clear M1 M2 BA9 f7 HIN hcr
              go_wp2_with fail
              go_ret
              exact HF.out))
          )
      · have hH0 : (0 : Int) < (H : Int) := by omega
        obtain ⟨h, eh⟩ : ∃ h, H = h + 1 := ⟨H - 1, by omega⟩
        have hsub : (H : Int) - 1 = (h : Int) := by omega
        have hwh : IntKind.i64.wrap (h : Int) = (h : Int) := wrap_in (by omega)
        have hhm : (h : Int) < (m : Int) := by omega
        have hHc : (H : Int) ≤ (cr : Int) := by omega
        have HRD : Hid (rad kind x xs = dst kind x.pos ((byD kind x.pos xs).getD h It.no).pos 4) := Lib.hid (by unfold rad rst; rw [HM.out, HH.out, if_pos (by omega), eh, Nat.add_sub_cancel, dst_comm])
        have hyl : h < (byD kind x.pos xs).length := by rw [byD_length, HM.out]; omega
        clear hH eh
        go_wp2_with (at_builtin; refine append1 rfl _ _ 23 rfl base 46 Try.underlying23 infoNode rfl (by omega) (by omega) (.slice (some ⟨g, 0, none⟩) k c) k (flatN ns) rfl A3.out.row [.int .i64 x.key, .int .i64 0, .int .i64 0, .int .i64 0] rfl rfl (ndCells_one ⟨x.key, 0, 0, 0⟩) (by omega) (by omega) ?_; intro v4 w4 hown4 hg4; obtain ⟨g4, c4, rfl, hg40, hgc4, hgd4⟩ := owns_shape hown4 (by omega); have HS4 := Lib.hid (A3.out.snoc (nd := ⟨x.key, 0, 0, 0⟩) hKB hFB hown4 hg4); have nB4 := HS4.out.1.cell; have nF4 := HS4.out.1.fz 0; clear hown4 hg4)
        obtain ⟨w5, hw5⟩ : ∃ w5, w4.setCell ⟨B, 0, none⟩ (.slice (some ⟨g4, 0, none⟩) (k + 1) c4) = w5 := ⟨_, rfl⟩
        rw [hw5] at HS4 ⊢
        have hk35 := HS4.out.2.2
        have hs5 := hk35.size
        have BA5 := Lib.hid HS4.out.2.1
        have HK35 := Lib.hid hk35
        have HI5 := Lib.hid (HI3.out.keep hk35 (by decide) HX3.out (by omega))
        have HT5 := Lib.hid (HT3.out.keep hk35 (fun e => by omega))
        have HIX5 := Lib.hid (HIX.out.keep ((Keep.of_below HB3.out).trans hk35) (fun q e => by subst e; exact hbB) (Nat.le_refl _) (by omega))
        obtain ⟨bg, og, hag, _, ay, cy, y0, y1, y2, hy⟩ := HI5.out.at_ hyl
        simp only [Option.some.injEq, Addr.mk.injEq] at hag
        obtain ⟨rfl, rfl, _⟩ := hag
        rw [Nat.zero_add] at y0 y1 y2
        have vy : vecB ((byD kind x.pos xs).getD h It.no).pos 4 = true := HVS.out _ (byD_mem.1 (by rw [List.getD_eq_getElem?_getD, List.getElem?_eq_getElem hyl]; exact List.getElem_mem _))
        obtain ⟨y, ey⟩ : ∃ y, (byD kind x.pos xs).getD h It.no = y := ⟨_, rfl⟩
        rw [ey] at y0 y1 y2 hy vy HRD
        have hy4 : y.pos.length = 4 := by have := vecB_len vy; omega
        have hx4 : x.pos.length = 4 := by have := vecB_len HVX.out; omega
        have D := implDistance w5.drew _ _ _ _ _ _ cj cy x.pos y.pos kind (HIX5.out.1.drawn (drawn_drew w5)) (hy.1.drawn (drawn_drew w5)) (vecB_coords HVX.out) (vecB_coords vy) (by omega) (by omega)
        rw [hx4, hy4] at D
        rw [hy4] at y1
        obtain ⟨r, er⟩ : ∃ r, dst kind x.pos y.pos 4 = r := ⟨_, rfl⟩
        rw [er] at D HRD
        have HD := Lib.hid D
        have HR := Lib.hid HRD.out
        have C5 : Hid (w5.cell? ⟨B, 0, none⟩ = some (.slice (some ⟨g4, 0, none⟩) (k + 1) c4) ∧ w5.cell? ⟨K, 0, none⟩ = some (.int .i64 kind) ∧ w5.cell? ⟨w.heap.size, 1, none⟩ = some (.slice aj 4 cj) ∧ w5.cell? ⟨gr, h * 3 + 1, none⟩ = some (.slice ay 4 cy)) := Lib.hid ⟨BA5.out.nod.cell, BA5.out.knd.cell, cells3_1 HT5.out, y1⟩
        have q1 := C5.out.1
        have q2 := C5.out.2.1
        have q3 := C5.out.2.2.1
        have q4 := C5.out.2.2.2
        have p1 : w5.cell? ⟨g4, k * 4 + 1, none⟩ = some (.int .i64 0) := (BA5.out.cell HA.out.len 1 (by omega)).1
        have p2 := (BA5.out.cell HA.out.len 1 (by omega)).2
        have hkk : (k : Int) < (k : Int) + 1 := by omega
        have HYL := Lib.hid hyl
        clear hw5 D y0 y1 y2 hy vy hyl ey hy4 hx4 er hk35 HS4 nB4 nF4 nB t0 HRD
        obtain ⟨bg', og', hag', _, hty, -⟩ := HI5.out.cells (by intro e; have hyl := HYL.out; rw [e] at hyl; simp at hyl)
        simp only [Option.some.injEq, Addr.mk.injEq] at hag'
        obtain ⟨rfl, -, -⟩ := hag'
        have hty' : ∃ c, w5.heap[gr]? = some (.cells c 39 (0, 0)) := by
          rcases hty with h | h
          · omega
          · exact h
        have HNE : Hid (g4 ≠ B ∧ g4 ≠ K ∧ g4 ≠ w.heap.size ∧ g4 ≠ gr) := Lib.hid ⟨owns_box BA5.out.row BA5.out.nod (by decide), owns_box BA5.out.row BA5.out.knd (by decide), fun e => by
          obtain ⟨c1, e1⟩ := owns_type BA5.out.row
          have e2 := HT5.out
          unfold TopB at e2
          rw [e, e2] at e1
          simp only [Option.some.injEq, Obj.cells.injEq] at e1
          exact absurd e1.2.1 (by decide), fun e => by
          obtain ⟨c1, e1⟩ := owns_type BA5.out.row
          obtain ⟨c2, e2⟩ := hty'
          rw [e, e2] at e1
          simp only [Option.some.injEq, Obj.cells.injEq] at e1
          exact absurd e1.2.1 (by decide)⟩
        have KS := Lib.hid (show ∀ w', Drawn w5 w' → w'.cell? ⟨B, 0, none⟩ = some (.slice (some ⟨g4, 0, none⟩) (k + 1) c4) ∧ w'.cell? ⟨K, 0, none⟩ = some (.int .i64 kind) ∧ w'.cell? ⟨w.heap.size, 1, none⟩ = some (.slice aj 4 cj) ∧ w'.cell? ⟨gr, h * 3 + 1, none⟩ = some (.slice ay 4 cy) from fun w' hd => ⟨hd.cell C5.out.1, hd.cell C5.out.2.1, hd.cell C5.out.2.2.1, hd.cell C5.out.2.2.2⟩)
        have KT := Lib.hid (show ∀ w', Drawn w5 w' → (w'.setCell ⟨g4, k * 4 + 1, none⟩ (.int .i64 r)).cell? ⟨B, 0, none⟩ = some (.slice (some ⟨g4, 0, none⟩) (k + 1) c4) ∧ (w'.setCell ⟨g4, k * 4 + 1, none⟩ (.int .i64 r)).cell? ⟨K, 0, none⟩ = some (.int .i64 kind) ∧ (w'.setCell ⟨g4, k * 4 + 1, none⟩ (.int .i64 r)).cell? ⟨w.heap.size, 1, none⟩ = some (.slice aj 4 cj) ∧ (w'.setCell ⟨g4, k * 4 + 1, none⟩ (.int .i64 r)).cell? ⟨gr, h * 3 + 1, none⟩ = some (.slice ay 4 cy) from fun w' hd => by
          have u := upd_set w' g4 (k * 4 + 1) (.int .i64 r)
          have q := KS.out w' hd
          have ne := HNE.out
          exact ⟨u.cell q.1 (by show B < g4 ∨ g4 + 1 ≤ B; omega), u.cell q.2.1 (by show K < g4 ∨ g4 + 1 ≤ K; omega), u.cell q.2.2.1 (by show w.heap.size < g4 ∨ g4 + 1 ≤ w.heap.size; omega), u.cell q.2.2.2 (by show gr < g4 ∨ g4 + 1 ≤ gr; omega)⟩)
        have HDR := Lib.hid (drawn_drew w5)
        clear q1 q2 q3 q4 p1 p2 hty hty'
        go_region_held3 (fun w' => w'.cell? ⟨B, 0, none⟩ = some (.slice (some ⟨g4, 0, none⟩) (k + 1) c4) ∧ w'.cell? ⟨K, 0, none⟩ = some (.int .i64 kind) ∧ w'.cell? ⟨w.heap.size, 1, none⟩ = some (.slice aj 4 cj) ∧ w'.cell? ⟨gr, h * 3 + 1, none⟩ = some (.slice ay 4 cy))
          (first | (with_reducible exact KS.out _ HDR.out) | (with_reducible exact KS.out _ HD6.out) | (with_reducible exact KT.out _ HD6.out) | go_keep)
          (first | (go_at_call 42; refine HD.out.mono ?_; rintro e wq ⟨rfl, hd6⟩; have HD6 : Hid (Drawn w5 wq) := Lib.hid ((drawn_drew w5).trans hd6); have p1 : wq.cell? ⟨g4, k * 4 + 1, none⟩ = some (.int .i64 0) := ((BA5.out.below HD6.out.below).cell HA.out.len 1 (by omega)).1; have p2 := ((BA5.out.below HD6.out.below).cell HA.out.len 1 (by omega)).2; clear hd6))
        all_goals (
          have M := (BA5.out.below HD6.out.below).mend HA.out.len (nd' := ⟨x.key, r, 0, 0⟩) (u := .int .i64 r) 1 (by omega) rfl
          obtain ⟨w6, hw6⟩ : ∃ w6, wq.setCell ⟨g4, k * 4 + 1, none⟩ (.int .i64 r) = w6 := ⟨_, rfl⟩
          rw [hw6] at M ⊢
          have BA6 := Lib.hid M.1
          have HK36 := Lib.hid ((HK35.out.trans (Keep.drawn HD6.out)).trans M.2)
          clear hw6 M p1 p2 HD C5 HIX5 HT5 HI5 BA5 HK35 KS KT HDR
          go_wp2_with fail
          have hs6 := HK36.out.size
          have hHc : (H : Int) ≤ (cr : Int) := by omega
          have hHi : (H : Int) ≤ (m : Int) := by omega
          have HI6 := Lib.hid (HI3.out.keep HK36.out (by decide) HX3.out (by omega))
          have HK6 := Lib.hid ((Keep.of_below HB3.out).trans HK36.out)
          have f6 := BA6.out.bld.cell
          have hlt : ((byD kind x.pos xs).take H).length = H := by rw [List.length_take, byD_length, HM.out]; omega
          have hpw : (byD kind x.pos xs).Pairwise fun a b => a.key ≠ b.key := (List.Perm.pairwise_iff (fun {a b} (h : a.key ≠ b.key) => Ne.symm h) (byD_perm kind x.pos xs)).2 HPW.out
          have IN := IH.out ((byD kind x.pos xs).take H) (by omega) w6.drew g4 c4 cr (k + 1) (some ⟨gr, 0, none⟩) (ns ++ [⟨x.key, r, 0, 0⟩]) (BA6.out.below (drawn_drew w6).below) ((HI6.out.below (drawn_drew w6).below).take H) ⟨by omega, hcr2⟩ (by show base ≤ w6.heap.size; omega) (fun z hz => HVS.out z (byD_mem.1 (List.mem_of_mem_take hz))) (hpw.sublist (List.take_sublist _ _)) (by omega)
          rw [hlt] at IN
          have HPB := Lib.hid hpw
          have HBT := Lib.hid (nds_both (kind := kind) (x := x) (xs := xs) (ns := ns) (k := k) (H := H) (by rw [HM.out]; exact HH.out))
          have HTL : Hid (((tr kind ((byD kind x.pos xs).take H)).nds (k + 1)).length = H) := Lib.hid (by rw [Tr.nds_length, tr_size, hlt])
          rw [HR.out] at HBT
          obtain ⟨T1, eT1⟩ : ∃ T, (tr kind ((byD kind x.pos xs).take H)).nds (k + 1) = T := ⟨_, rfl⟩
          obtain ⟨n1, en1⟩ : ∃ z, (tr kind ((byD kind x.pos xs).take H)).top (k + 1) = z := ⟨_, rfl⟩
          rw [eT1, en1] at IN HBT
          rw [eT1] at HTL
          have HIN := Lib.hid IN
          clear IN hlt hpw eT1 en1
          go_region_law (go_simp; go_at_call 49; refine HIN.out.mono ?_; rintro e w7 ⟨g7, c7, rfl, b7, k7⟩; have BA7 := Lib.hid b7; have HK67 := Lib.hid ((Keep.drawn (drawn_drew w6)).trans k7); clear b7 k7)
          all_goals (
            have hs7 := HK67.out.size
            have HX6 : Hid (∀ q, q = B → base ≤ q ∧ ∀ c, w6.heap[q]? ≠ some (.cells c 39 (0, 0))) := Lib.hid fun q e => by subst e; exact ⟨hbB, BA6.out.nod.not (by decide)⟩
            have HI7 := Lib.hid (HI6.out.keep HK67.out (by decide) HX6.out (by omega))
            have HK7 := Lib.hid (HK6.out.trans HK67.out)
            have f7 := BA7.out.bld.cell
            clear f6 HIN
            have hld : ((byD kind x.pos xs).drop H).length = m - H := by rw [List.length_drop, byD_length, HM.out]
            have IN2 : ∀ a' c', (a' = some ⟨gr, H * 3, none⟩ ∨ m - H = 0) → (m - H ≤ c' ∧ c' ≤ 9223372036854775807) → Calls Try.prog 49 #[.slice a' (m - H) c', .pointer (some ⟨K, 0, none⟩), .pointer (some ⟨B, 0, none⟩), .pointer (some ⟨F, 0, none⟩)] w7.drew (BuildPost w7.drew base K B F kind (k + 1 + H + (m - H)) (ns ++ [⟨x.key, r, 0, 0⟩] ++ T1 ++ (tr kind ((byD kind x.pos xs).drop H)).nds (k + 1 + H)) ((tr kind ((byD kind x.pos xs).drop H)).top (k + 1 + H))) := fun a' c' ha' hc' => by
              have HIB : ItemsB w7.drew base a' ((byD kind x.pos xs).drop H) := by
                rcases ha' with rfl | h0
                · have := (HI7.out.below (drawn_drew w7).below).drop H
                  rwa [Nat.zero_add] at this
                · rw [List.eq_nil_of_length_eq_zero (hld.trans h0)]
                  exact ItemsB.nil _ _ _
              have h := IH.out ((byD kind x.pos xs).drop H) (by omega) w7.drew g7 c7 c' (k + 1 + H) a' (ns ++ [⟨x.key, r, 0, 0⟩] ++ T1) (BA7.out.below (drawn_drew w7).below) HIB ⟨by omega, hc'.2⟩ (by show base ≤ w7.heap.size; omega) (fun z hz => HVS.out z (byD_mem.1 (List.mem_of_mem_drop hz))) (HPB.out.sublist (List.drop_sublist _ _)) (by omega)
              rw [hld] at h
              exact h
            obtain ⟨T2, eT2⟩ : ∃ T, (tr kind ((byD kind x.pos xs).drop H)).nds (k + 1 + H) = T := ⟨_, rfl⟩
            obtain ⟨n2, en2⟩ : ∃ z, (tr kind ((byD kind x.pos xs).drop H)).top (k + 1 + H) = z := ⟨_, rfl⟩
            rw [eT2, en2] at IN2 HBT
            have HIN := Lib.hid IN2
            clear IN2 hld eT2 en2
            go_wp2_with fail
            by_cases hcr : cr = H
            all_goals (
              go_region_law (go_simp; go_at_call 49; refine (HIN.out _ _ (by first | exact .inl rfl | exact .inr (by omega)) ⟨by omega, by omega⟩).mono ?_; rintro e w8 ⟨g8, c8, rfl, b8, k8⟩; have BA8 := Lib.hid b8; have HK8 := Lib.hid ((HK7.out.trans (Keep.drawn (drawn_drew w7))).trans k8); clear b8 k8)
              all_goals (
                have BA9 := BA8.out
                rw [show k + 1 + H + (m - H) = k + (m + 1) by omega, show ns ++ [(⟨x.key, r, 0, 0⟩ : Nd)] ++ T1 ++ T2 = ns ++ ⟨x.key, r, 0, 0⟩ :: (T1 ++ T2) by simp] at BA9
                have M1 := BA9.mend HA.out.len (nd' := ⟨x.key, r, n1, 0⟩) (u := .int .i64 n1) 2 (by omega) rfl
                have M2 := M1.1.mend HA.out.len (nd' := ⟨x.key, r, n1, n2⟩) (u := .int .i64 n2) 3 (by omega) rfl
                have d2 := (BA9.cell HA.out.len 2 (by omega)).1
                have z2 := (BA9.cell HA.out.len 2 (by omega)).2
                have d3 := (M1.1.cell HA.out.len 3 (by omega)).1
                have z3 := (M1.1.cell HA.out.len 3 (by omega)).2
                have b1 := BA9.nod.cell
                have b2 := M1.1.nod.cell
                replace d2 : w8.cell? ⟨g8, k * 4 + 2, none⟩ = some (.int .i64 0) := d2
                replace d3 : (w8.setCell ⟨g8, k * 4 + 2, none⟩ (.int .i64 n1)).cell? ⟨g8, k * 4 + 3, none⟩ = some (.int .i64 0) := d3
                have hgB : g8 ≠ B := owns_box BA9.row BA9.nod (by decide)
                have HF : Hid (BuildPost w base K B F kind (k + (m + 1)) (ns ++ (tr kind (x :: xs)).nds k) ((tr kind (x :: xs)).top k) (.returned (.int .i64 (k : Int))) ((w8.setCell ⟨g8, k * 4 + 2, none⟩ (.int .i64 n1)).setCell ⟨g8, k * 4 + 3, none⟩ (.int .i64 n2))) := Lib.hid (by
                  rw [HBT.out, tr_cons]
                  exact ⟨g8, c8, rfl, M2.1, (HK8.out.trans M1.2).trans M2.2⟩)
                have hkm : (k : Int) < (k : Int) + ((m : Int) + 1) := by omega
                clear M1 M2 BA9 f7 HIN hcr
                go_wp2_with fail
                go_ret
                exact HF.out))
            )
          )
end Go.Proofs.Ytlammenejgagdaa
