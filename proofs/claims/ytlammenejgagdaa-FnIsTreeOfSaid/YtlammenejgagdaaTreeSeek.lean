/-
  The walk of the reference's visit: a search in a tree, node by node.
-/
import Derived.Test.YtlammenejgagdaaTreeVisit
namespace Go.Proofs.Ytlammenejgagdaa
open Go.RowKit
set_option linter.unusedVariables false

theorem Tr.vis_wh (kind : Int) (q : List Int) (k : Nat) (t : Tr) : ∀ h, WH h → WH (t.vis kind q k h).1 := by
  induction t with
  | nil => intro h hw; exact hw
  | node x r a b iha ihb =>
    intro h hw
    have h1 := wh_take (wh_ins (x := ⟨x.key, dst kind x.pos q 4⟩) hw) k
    unfold Tr.vis
    dsimp only
    split
    · have h2 := iha _ h1
      split
      · exact ihb _ h2
      · exact h2
    · have h2 := ihb _ h1
      split
      · exact iha _ h2
      · exact h2
theorem Tr.vis_len (kind : Int) (q : List Int) (k : Nat) (t : Tr) : ∀ h : List Ht, h.length ≤ k → (t.vis kind q k h).1.length ≤ k := by
  induction t with
  | nil => intro h hw; exact hw
  | node x r a b iha ihb =>
    intro h hw
    have h1 : ((insH ⟨x.key, dst kind x.pos q 4⟩ h).take k).length ≤ k := by rw [List.length_take]; omega
    unfold Tr.vis
    dsimp only
    split
    · have h2 := iha _ h1
      split
      · exact ihb _ h2
      · exact h2
    · have h2 := ihb _ h1
      split
      · exact iha _ h2
      · exact h2
theorem Tr.vis_mem (kind : Int) (q : List Int) (k : Nat) (t : Tr) : ∀ (h : List Ht) (y : Ht), y ∈ (t.vis kind q k h).1 → y ∈ h ∨ ∃ z ∈ t.items, y = htIt kind q z := by
  induction t with
  | nil => intro h y hy; exact .inl hy
  | node x r a b iha ihb =>
    intro h y hy
    have h0 : ∀ y, y ∈ (insH ⟨x.key, dst kind x.pos q 4⟩ h).take k → y ∈ h ∨ ∃ z ∈ (Tr.node x r a b).items, y = htIt kind q z := fun y hy => by
      rcases mem_insH.1 (List.mem_of_mem_take hy) with rfl | hy
      · exact .inr ⟨x, List.mem_cons_self .., rfl⟩
      · exact .inl hy
    have ha : ∀ g, (∀ y, y ∈ g → y ∈ h ∨ ∃ z ∈ (Tr.node x r a b).items, y = htIt kind q z) → ∀ y, y ∈ (a.vis kind q k g).1 → y ∈ h ∨ ∃ z ∈ (Tr.node x r a b).items, y = htIt kind q z := fun g hg y hy => by
      rcases iha g y hy with hy | ⟨z, hz, rfl⟩
      · exact hg y hy
      · exact .inr ⟨z, List.mem_cons_of_mem _ (List.mem_append_left _ hz), rfl⟩
    have hb : ∀ g, (∀ y, y ∈ g → y ∈ h ∨ ∃ z ∈ (Tr.node x r a b).items, y = htIt kind q z) → ∀ y, y ∈ (b.vis kind q k g).1 → y ∈ h ∨ ∃ z ∈ (Tr.node x r a b).items, y = htIt kind q z := fun g hg y hy => by
      rcases ihb g y hy with hy | ⟨z, hz, rfl⟩
      · exact hg y hy
      · exact .inr ⟨z, List.mem_cons_of_mem _ (List.mem_append_right _ hz), rfl⟩
    unfold Tr.vis at hy
    dsimp only at hy
    split at hy
    · split at hy
      · exact hb _ (ha _ h0) y hy
      · exact ha _ h0 y hy
    · split at hy
      · exact ha _ (hb _ h0) y hy
      · exact hb _ h0 y hy
/-- distances that a search adds up stay in their bounds -/
def BdH (h : List Ht) : Prop := ∀ y ∈ h, 0 ≤ y.dist ∧ y.dist ≤ 1000000
theorem rch_bd {k : Nat} {h : List Ht} (hb : BdH h) (hk : 1 ≤ k) : 0 ≤ rch k h ∧ rch k h ≤ 1000000 := by
  unfold rch
  split
  · omega
  · exact hb _ (mem_getD (by omega))
theorem vis_bd {kind : Int} {q : List Int} {k : Nat} {t : Tr} {h : List Ht} (hb : BdH h) (hq : coordsB q = true) (ht : ∀ z ∈ t.items, coordsB z.pos = true) : BdH (t.vis kind q k h).1 := fun y hy => by
  rcases t.vis_mem kind q k h y hy with hy | ⟨z, hz, rfl⟩
  · exact hb y hy
  · have := dst_bd kind (ht z hz) hq 4
    show 0 ≤ dst kind z.pos q 4 ∧ dst kind z.pos q 4 ≤ 1000000
    omega
theorem ins_bd {k : Nat} {x : Ht} {h : List Ht} (hb : BdH h) (hx : 0 ≤ x.dist ∧ x.dist ≤ 1000000) : BdH ((insH x h).take k) := fun y hy => by
  rcases mem_insH.1 (List.mem_of_mem_take hy) with rfl | hy
  · exact hx
  · exact hb y hy
/-- the nodes of t lie in N from number i on -/
def SubN (N : List Nd) (t : Tr) (i : Nat) : Prop := ∃ pre post, N = pre ++ t.nds i ++ post ∧ pre.length = i
theorem SubN.near {N : List Nd} {x : It} {r : Int} {a b : Tr} {i : Nat} (h : SubN N (.node x r a b) i) : SubN N a (i + 1) := by
  obtain ⟨pre, post, h1, h2⟩ := h
  refine ⟨pre ++ [⟨x.key, r, a.top (i + 1), b.top (i + 1 + a.size)⟩], b.nds (i + 1 + a.size) ++ post, ?_, by simp [h2]⟩
  rw [h1]
  simp [Tr.nds]
theorem SubN.far {N : List Nd} {x : It} {r : Int} {a b : Tr} {i : Nat} (h : SubN N (.node x r a b) i) : SubN N b (i + 1 + a.size) := by
  obtain ⟨pre, post, h1, h2⟩ := h
  refine ⟨pre ++ ⟨x.key, r, a.top (i + 1), b.top (i + 1 + a.size)⟩ :: a.nds (i + 1), post, ?_, by simp [h2, Tr.nds_length]; omega⟩
  rw [h1]
  simp [Tr.nds]
theorem SubN.top {N : List Nd} {x : It} {r : Int} {a b : Tr} {i : Nat} (h : SubN N (.node x r a b) i) : i < N.length ∧ N.getD i Nd.no = ⟨x.key, r, a.top (i + 1), b.top (i + 1 + a.size)⟩ := by
  obtain ⟨pre, post, h1, h2⟩ := h
  refine ⟨by rw [h1]; simp [Tr.nds]; omega, ?_⟩
  rw [h1, List.getD_eq_getElem?_getD, List.append_assoc, List.getElem?_append_right (by omega), h2, Nat.sub_self]
  simp [Tr.nds]
/-- a row of nodes -/
def NodesR (w : World) (g : Nat) (N : List Nd) : Prop := ∀ j, j < N.length → w.cell? ⟨g, j * 4, none⟩ = some (.int .i64 (N.getD j Nd.no).key) ∧ w.cell? ⟨g, j * 4 + 1, none⟩ = some (.int .i64 (N.getD j Nd.no).rad) ∧ w.cell? ⟨g, j * 4 + 2, none⟩ = some (.int .i64 (N.getD j Nd.no).near) ∧ w.cell? ⟨g, j * 4 + 3, none⟩ = some (.int .i64 (N.getD j Nd.no).far)
theorem nodesR_own {w : World} {base g n c : Nat} {N : List Nd} (h : w.ownsRow base 46 4 (.slice (some ⟨g, 0, none⟩) n c) n (flatN N)) : NodesR w g N := fun j hj => by
  have hn : N.length = n := by have := h.1; rw [flatN_length] at this; omega
  have e0 := h.cellAt (j * 4 + 0) (by omega)
  have e1 := h.cellAt (j * 4 + 1) (by omega)
  have e2 := h.cellAt (j * 4 + 2) (by omega)
  have e3 := h.cellAt (j * 4 + 3) (by omega)
  rw [flatN_cell 0 (by omega) hj] at e0
  rw [flatN_cell 1 (by omega) hj] at e1
  rw [flatN_cell 2 (by omega) hj] at e2
  rw [flatN_cell 3 (by omega) hj] at e3
  exact ⟨e0, e1, e2, e3⟩
theorem NodesR.upd {w w' : World} {g B : Nat} {N : List Nd} (h : NodesR w g N) (u : Upd B (B + 1) w w') (hg : g < B) : NodesR w' g N := fun j hj => by
  obtain ⟨h0, h1, h2, h3⟩ := h j hj
  exact ⟨u.cell h0 (.inl hg), u.cell h1 (.inl hg), u.cell h2 (.inl hg), u.cell h3 (.inl hg)⟩
/-- how a search goes on from a node -/
theorem vis_in {kind : Int} {q : List Int} {k : Nat} {x : It} {r d : Int} {a b : Tr} {h h1 : List Ht} (hd : dst kind x.pos q 4 = d) (h1e : (insH ⟨x.key, d⟩ h).take k = h1) (hr : d ≤ r) :
    (Tr.node x r a b).vis kind q k h = if r ≤ d + rch k (a.vis kind q k h1).1 then ((b.vis kind q k (a.vis kind q k h1).1).1, 1 + (a.vis kind q k h1).2 + (b.vis kind q k (a.vis kind q k h1).1).2) else ((a.vis kind q k h1).1, 1 + (a.vis kind q k h1).2) := by
  subst hd h1e
  rw [Tr.vis]
  dsimp only
  rw [if_pos hr]
theorem vis_out {kind : Int} {q : List Int} {k : Nat} {x : It} {r d : Int} {a b : Tr} {h h1 : List Ht} (hd : dst kind x.pos q 4 = d) (h1e : (insH ⟨x.key, d⟩ h).take k = h1) (hr : ¬ d ≤ r) :
    (Tr.node x r a b).vis kind q k h = if d - rch k (b.vis kind q k h1).1 ≤ r then ((a.vis kind q k (b.vis kind q k h1).1).1, 1 + (b.vis kind q k h1).2 + (a.vis kind q k (b.vis kind q k h1).1).2) else ((b.vis kind q k h1).1, 1 + (b.vis kind q k h1).2) := by
  subst hd h1e
  rw [Tr.vis]
  dsimp only
  rw [if_neg hr]
/-- addHit, of hits that may be none -/
theorem addHit_all (ha : Option Addr) (hc k : Nat) (h : List Ht) (x : Ht) (hnil : h = [] → ha = none ∧ hc = 0) (hw : WH h) (hl : h.length ≤ 1000) (hk : k ≤ 1000) (w : World) (lo hi : Nat) (hH : Hits w lo hi ha h) :
    Calls Try.prog 82 #[.slice ha h.length hc, htV x, .int .i64 (k : Int)] w (NewHitsS w ((insH x h).take k)) := by
  by_cases hn : h = []
  · subst hn
    obtain ⟨rfl, rfl⟩ := hnil rfl
    exact addHit_nil w x k hk
  · obtain ⟨p, off, rfl, _⟩ := hH.cells hn
    exact addHit_gen w lo hi p off hc h x k hH (fun _ h0 h1 h2 => insHw_stop hw h0 h1 h2) hl hk
/-- a search on its way: h found, s nodes looked at -/
structure SeekAt (w : World) (B g c nn cap capm : Nat) (a b : Option Addr) (ll : List It) (kind : Int) (q : List Int) (k : Nat) (N : List Nd) (h : List Ht) (s : Nat) : Prop where
  box : ∃ ha hc, SeekB w B (.slice (some ⟨g, 0, none⟩) nn c) (.slice a ll.length cap) kind (.slice b q.length capm) (k : Int) (.slice ha h.length hc) (s : Int) ∧ Hits w (B + 1) w.heap.size ha h ∧ (h = [] → ha = none ∧ hc = 0)
  nodes : NodesR w g N
  items : Items w 0 B a ll
  vec : Ints w 0 B b q
theorem SeekAt.drawn {w w' : World} {B g c nn cap capm : Nat} {a b : Option Addr} {ll : List It} {kind : Int} {q : List Int} {k : Nat} {N : List Nd} {h : List Ht} {s : Nat} (hS : SeekAt w B g c nn cap capm a b ll kind q k N h s) (d : Drawn w w') : SeekAt w' B g c nn cap capm a b ll kind q k N h s := by
  obtain ⟨⟨ha, hc, h1, h2, h3⟩, h4, h5, h6⟩ := hS
  refine ⟨⟨ha, hc, h1.drawn d, (h2.drawn d).wide (Nat.le_refl _) (by rw [d.heap]; exact Nat.le_refl _), h3⟩, fun j hj => ?_, h5.drawn d, h6.drawn d⟩
  obtain ⟨e0, e1, e2, e3⟩ := h4 j hj
  exact ⟨d.cell e0, d.cell e1, d.cell e2, d.cell e3⟩
def VisPost (w : World) (B g c nn cap capm : Nat) (a b : Option Addr) (ll : List It) (kind : Int) (q : List Int) (k : Nat) (N : List Nd) (h : List Ht) (s : Nat) (e : Ending) (w' : World) : Prop :=
  e = .returned (.tuple #[]) ∧ SeekAt w' B g c nn cap capm a b ll kind q k N h s ∧ Upd B (B + 1) w w'
set_option maxRecDepth 4000 in
set_option maxHeartbeats 4000000 in
theorem visit_any (B g c nn cap capm : Nat) (a b : Option Addr) (ll : List It) (kind : Int) (q : List Int) (k : Nat) (N : List Nd) (hgB : g < B) (hst : storeB ll = true) (hq : vecB q 4 = true) (hk : 1 ≤ k ∧ k ≤ 16) (hN : N.length = nn ∧ nn ≤ 1000) :
    ∀ (t : Tr) (i : Nat), SubN N t i → (∀ x ∈ t.items, ∃ j, j < ll.length ∧ ll.getD j It.no = x) → ∀ (w : World) (h : List Ht) (s : Nat), SeekAt w B g c nn cap capm a b ll kind q k N h s → (WH h ∧ BdH h) → h.length ≤ k → s + t.size ≤ 1000 →
    Calls Try.prog 63 #[.pointer (some ⟨B, 0, none⟩), .int .i64 (t.top i)] w (VisPost w B g c nn cap capm a b ll kind q k N (t.vis kind q k h).1 (s + (t.vis kind q k h).2)) := by
  intro t
  induction t with
  | nil =>
    intro i _ _ w h s hS hw hl hs
    show Calls Try.prog 63 #[.pointer (some ⟨B, 0, none⟩), .int .i64 (-1)] w _
    have HF : Hid (VisPost w B g c nn cap capm a b ll kind q k N (Tr.nil.vis kind q k h).1 (s + (Tr.nil.vis kind q k h).2) (.returned (.tuple #[])) w) := Lib.hid ⟨rfl, hS, Upd.refl _ _ _⟩
    clear hS
    go_enter Try.func63, Try.ntmps63
    go_wp2_with fail
    (try simp only [Exit.inBlock, Exit.then])
    refine bodyPost_ret (v := .tuple #[]) (by simp [results, Try.results63, go_sem]) rfl ?_
    exact HF.out
  | node x r ta tb iha ihb =>
    intro i hsub hit w h s hS hw hl hs
    have IA := Lib.hid iha
    have IB := Lib.hid ihb
    obtain ⟨⟨ha, hc, hbox, hH, hnil⟩, hnod, hitm, hvec⟩ := hS
    obtain ⟨hi, htop⟩ := hsub.top
    have SA := Lib.hid hsub.near
    have SB := Lib.hid hsub.far
    obtain ⟨n0, n1, n2, n3⟩ := hnod i hi
    rw [htop] at n0 n1 n2 n3
    dsimp only at n0 n1 n2 n3
    have hin : (i : Int) < (nn : Int) := by have := hN.1; omega
    obtain ⟨j, hj, hjx⟩ := hit x (List.mem_cons_self ..)
    have HIA : Hid (∀ y ∈ ta.items, ∃ j, j < ll.length ∧ ll.getD j It.no = y) := Lib.hid fun y hy => hit y (List.mem_cons_of_mem _ (List.mem_append_left _ hy))
    have HIB : Hid (∀ y ∈ tb.items, ∃ j, j < ll.length ∧ ll.getD j It.no = y) := Lib.hid fun y hy => hit y (List.mem_cons_of_mem _ (List.mem_append_right _ hy))
    obtain ⟨na, ena⟩ : ∃ z, ta.top (i + 1) = z := ⟨_, rfl⟩
    obtain ⟨nb, enb⟩ : ∃ z, tb.top (i + 1 + ta.size) = z := ⟨_, rfl⟩
    rw [ena] at n2
    rw [enb] at n3
    have HNA := Lib.hid ena
    have HNB := Lib.hid enb
    show Calls Try.prog 63 #[.pointer (some ⟨B, 0, none⟩), .int .i64 (i : Int)] w _
    -- the node, in its place
    have hmb := below_alloc w (.cells #[.int .i64 x.key, .int .i64 r, .int .i64 na, .int .i64 nb] 46)
    obtain ⟨m0, m1, m2, m3⟩ := cells4_new w (.int .i64 x.key) (.int .i64 r) (.int .i64 na) (.int .i64 nb) 46
    obtain ⟨W, hW⟩ : ∃ W, w.alloc (.cells #[.int .i64 x.key, .int .i64 r, .int .i64 na, .int .i64 nb] 46) = W := ⟨_, rfl⟩
    have hszW : W.heap.size = w.heap.size + 1 := by rw [← hW]; simp
    rw [hW] at hmb m0 m1 m2 m3
    have hBlt := hbox.lt
    have hbox1 := hbox.below hmb
    have c0 := hbox.c0
    have b1 := hbox1.c1
    have b2 := hbox1.c2
    have b3 := hbox1.c3
    have KEY := Lib.hid fun p : Nat => keyAt_any (W.drewN p) 0 B a cap j ll x.key ((hitm.below hmb).drawn ⟨p, rfl⟩) ((storeB_AscI hst).nodup) hj (by rw [hjx])
    obtain ⟨bb, off, ea, _, _, aj, cj, q0, q1, q2, qx, _⟩ := (hitm.below hmb).at_ hj
    subst ea
    have VX := Lib.hid (storeB_vec hst hj)
    rw [hjx] at q0 q1 q2 qx VX
    have hx4 : x.pos.length = 4 := by have := vecB_len VX.out; omega
    have hq4 : q.length = 4 := by have := vecB_len hq; omega
    have DD := Lib.hid fun p : Nat => specDist (W.drewN p) _ _ _ _ _ _ cj capm x.pos q kind (qx.drawn ⟨p, rfl⟩) ((hvec.below hmb).drawn ⟨p, rfl⟩) (vecB_coords VX.out) (vecB_coords hq) (by omega) (by omega)
    rw [hx4] at DD q1
    obtain ⟨d, ed⟩ : ∃ d, dst kind x.pos q 4 = d := ⟨_, rfl⟩
    have HED := Lib.hid ed
    have HDB : Hid (0 ≤ d ∧ d ≤ 160000) := Lib.hid (by have := dst_bd kind (vecB_coords VX.out) (vecB_coords hq) 4; rw [ed] at this; omega)
    rw [ed] at DD
    have hji : (j : Int) < ll.length := by omega
    have HC := Lib.hid (And.intro hbox1 (And.intro (hH.below hmb) hnil))
    have HMM := Lib.hid (And.intro m0 (And.intro m1 (And.intro m2 m3)))
    have HSQ := Lib.hid (And.intro (hnod) (And.intro hitm hvec))
    have HST := Lib.hid hst
    have HQ := Lib.hid hq
    have HSZ := Lib.hid hszW
    have HMB := Lib.hid hmb
    clear hbox hbox1 hH hnil hnod hitm hvec hsub htop hit iha ihb ena enb hmb hst hq hjx qx hx4 hq4 ed hszW q0 q2
    go_enter Try.func63, Try.ntmps63
    go_wp2_with fail
    clear hW n0 n1 n2 n3 c0
    go_quiet ((first | (go_at_call 81; exact quiet_left (KEY.out _)) | (go_at_call 57; exact quiet_drawn (DD.out _))))
    obtain ⟨W2, hW2⟩ : ∃ W2, W.drewN nq = W2 := ⟨_, rfl⟩
    have HD2 : Hid (Drawn W W2) := Lib.hid ⟨nq, hW2.symm⟩
    rw [hW2]
    clear hW2 m0 m1 m2 m3 b1 b2 b3 q1 KEY DD
    have hb2 := HC.out.1.drawn HD2.out
    have b6 := hb2.c6
    have bf := hb2.fz
    have hb3 := hb2.set6 ((s : Int) + 1)
    have x4 := hb3.c4
    have x5 := hb3.c5
    have m0 : (W2.setCell ⟨B, 6, none⟩ (.int .i64 ((s : Int) + 1))).cell? ⟨w.heap.size, 0, none⟩ = some (.int .i64 x.key) := (upd_set W2 B 6 _).cell (HD2.out.cell HMM.out.1) (.inr hBlt)
    have hU3 : Upd B (B + 1) W (W2.setCell ⟨B, 6, none⟩ (.int .i64 ((s : Int) + 1))) := (HD2.out.upd).trans (upd_set W2 B 6 _)
    have hH3 := HC.out.2.1.upd hU3 (by omega)
    obtain ⟨W3, hW3⟩ : ∃ W3, W2.setCell ⟨B, 6, none⟩ (.int .i64 ((s : Int) + 1)) = W3 := ⟨_, rfl⟩
    have hs1k : (s : Int) + 1 ≤ 1000 := by have : s + (1 + ta.size + tb.size) ≤ 1000 := hs; omega
    go_wp2_with fail
    rw [hW3] at hb3 x4 x5 m0 hU3 hH3
    have HU3 := Lib.hid hU3
    have HB3 := Lib.hid hb3
    have HH3 := Lib.hid (hH3.drawn (drawn_drew W3))
    have AH := Lib.hid fun w' lo hi => addHit_all ha hc k h ⟨x.key, d⟩ HC.out.2.2 hw.1 (by omega) (by omega) w' lo hi
    obtain ⟨h1, eh1⟩ : ∃ h1, (insH ⟨x.key, d⟩ h).take k = h1 := ⟨_, rfl⟩
    have h1l : 1 ≤ h1.length ∧ h1.length ≤ k ∧ h1.length ≤ h.length + 1 := by rw [← eh1, List.length_take, insH_length]; omega
    have h1w : WH h1 ∧ BdH h1 := by rw [← eh1]; exact ⟨wh_take (wh_ins hw.1) k, ins_bd hw.2 ⟨HDB.out.1, by have := HDB.out.2; show d ≤ _; omega⟩⟩
    rw [eh1] at AH
    have HE1 := Lib.hid eh1
    have HL1 := Lib.hid (And.intro h1l h1w)
    clear hW3 hb2 b6 bf hU3 hH3 hb3 eh1 h1l h1w
    go_region_law (go_simp; go_at_call 82; refine (AH.out _ _ _ HH3.out).mono ?_; rintro e w5 ⟨g5, c5, rfl, hh5, hcap5, hb5⟩; have HB5 := Lib.hid ((HB3.out.drawn (drawn_drew W3)).below hb5); have HH5 := Lib.hid hh5; have HX5 := Lib.hid hb5; have y5 := HB5.out.c5; have yf := HB5.out.fz; clear hh5 hcap5 hb5)
    all_goals (
      have hU6 : Upd B (B + 1) W (w5.setCell ⟨B, 5, none⟩ (.slice (some ⟨g5, 0, none⟩) h1.length c5)) := HU3.out.trans (((drawn_drew W3).upd).trans ((Upd.of_below HX5.out).trans (upd_set w5 B 5 _)))
      have hUw := (Upd.of_below (lo := B) (hi := B + 1) HMB.out).trans hU6
      have hszD : w.heap.size + 1 ≤ W3.drew.heap.size := by have h1 := HU3.out.size; have h2 := HSZ.out; show _ ≤ W3.heap.size; omega
      have hS6 : SeekAt (w5.setCell ⟨B, 5, none⟩ (.slice (some ⟨g5, 0, none⟩) h1.length c5)) B g c nn cap capm (some ⟨bb, off, none⟩) b ll kind q k N h1 (s + 1) := by
        refine ⟨⟨_, _, by rw [show ((s + 1 : Nat) : Int) = (s : Int) + 1 by omega]; exact HB5.out.set5 _, (HH5.out.1.upd (upd_set w5 B 5 _) (by omega)).wide (by omega) (by simp [World.setCell]), fun e => ?_⟩, HSQ.out.1.upd hUw hgB, HSQ.out.2.1.upd hUw (.inl (Nat.le_refl _)), HSQ.out.2.2.upd hUw (.inl (Nat.le_refl _))⟩
        have := HL1.out.1.1
        rw [e] at this
        exact absurd this (by simp)
      have m1 := hU6.cell HMM.out.2.1 (.inr hBlt)
      have m2 := hU6.cell HMM.out.2.2.1 (.inr hBlt)
      have m3 := hU6.cell HMM.out.2.2.2 (.inr hBlt)
      obtain ⟨W6, hW6⟩ : ∃ W6, w5.setCell ⟨B, 5, none⟩ (.slice (some ⟨g5, 0, none⟩) h1.length c5) = W6 := ⟨_, rfl⟩
      rw [hW6] at hUw hS6 m1 m2 m3 ⊢
      have HUW := Lib.hid hUw
      have HS6 := Lib.hid hS6
      have HM6 := Lib.hid (And.intro m1 (And.intro m2 m3))
      clear hU6 hUw hszD hS6 hW6 HB5 HH5 HX5 y5 yf m0 x4 x5 AH HB3 HH3 HU3
      by_cases hdr : d ≤ r
      · have HLAW := Lib.hid (vis_in (a := ta) (b := tb) HED.out HE1.out hdr)
        have V1 := IA.out (i + 1) SA.out HIA.out W6 h1 (s + 1) HS6.out HL1.out.2 HL1.out.1.2.1 (by have : s + (1 + ta.size + tb.size) ≤ 1000 := hs; omega)
        rw [HNA.out] at V1
        have hp2 := Tr.vis_le kind q k ta h1
        have hp3 := Tr.vis_len kind q k ta h1 HL1.out.1.2.1
        have hp4 := Tr.vis_wh kind q k ta h1 HL1.out.2.1
        have hp5 := vis_bd (kind := kind) (t := ta) (k := k) HL1.out.2.2 (vecB_coords HQ.out) (fun z hz => by
          obtain ⟨j', hj', rfl⟩ := HIA.out z hz
          exact vecB_coords (storeB_vec HST.out hj'))
        obtain ⟨⟨p, pn⟩, ep⟩ : ∃ p, ta.vis kind q k h1 = p := ⟨_, rfl⟩
        rw [ep] at V1 HLAW hp2 hp3 hp4 hp5
        dsimp only at V1 HLAW hp2 hp3 hp4 hp5
        have hrb := rch_bd hp5 hk.1
        have HP := Lib.hid (And.intro hp2 (And.intro hp3 (And.intro hp4 hp5)))
        obtain ⟨R, eR⟩ : ∃ R, rch k p = R := ⟨_, rfl⟩
        rw [eR] at HLAW hrb
        have HR := Lib.hid eR
        have HV1 := Lib.hid V1
        clear hp2 hp3 hp4 hp5 ep eR V1
        go_wp2_with fail
        refine HV1.out.mono ?_
        rintro e W7 ⟨rfl, hS7, hu7⟩
        have n1 := hu7.cell HM6.out.1 (.inr hBlt)
        have n2 := hu7.cell HM6.out.2.1 (.inr hBlt)
        have n3 := hu7.cell HM6.out.2.2 (.inr hBlt)
        have HS7 := Lib.hid hS7
        have HU7 := Lib.hid (HUW.out.trans hu7)
        obtain ⟨ha7, hc7, hb7, hh7, -⟩ := hS7.box
        have RC := Lib.hid fun t : Nat => reach_any (W7.drewN t) B _ _ hc7 k _ _ _ kind _ ha7 p (hb7.drawn ⟨t, rfl⟩) (hh7.drawn ⟨t, rfl⟩) hk.1 (by have := HP.out.2.1; omega)
        rw [HR.out] at RC
        have hdb := HDB.out
        have hwr : IntKind.i64.wrap (d + R) = d + R := wrap_in (by omega)
        clear hS7 hu7 hb7 hh7 m1 m2 m3
        by_cases hcc : r ≤ d + R
        · have HF : Hid (∀ W9, VisPost W7 B g c nn cap capm (some ⟨bb, off, none⟩) b ll kind q k N (tb.vis kind q k p).1 (s + 1 + pn + (tb.vis kind q k p).2) (.returned (.tuple #[])) W9 → VisPost w B g c nn cap capm (some ⟨bb, off, none⟩) b ll kind q k N ((Tr.node x r ta tb).vis kind q k h).1 (s + ((Tr.node x r ta tb).vis kind q k h).2) (.returned (.tuple #[])) W9) := Lib.hid fun W9 hv => by
            obtain ⟨-, v2, v3⟩ := hv
            rw [HLAW.out, if_pos hcc]
            dsimp only
            rw [show s + (1 + pn + (tb.vis kind q k p).2) = s + 1 + pn + (tb.vis kind q k p).2 by omega]
            exact ⟨rfl, v2, HU7.out.trans v3⟩
          go_wp2_with fail
          go_quiet ((go_at_call 83; exact quiet_drawn (RC.out _)))
          have V2 := IB.out (i + 1 + ta.size) SB.out HIB.out (W7.drewN nq) p (s + 1 + pn) (HS7.out.drawn ⟨nq, rfl⟩) ⟨HP.out.2.2.1, HP.out.2.2.2⟩ HP.out.2.1 (by have : s + (1 + ta.size + tb.size) ≤ 1000 := hs; have := HP.out.1; omega)
          rw [HNB.out] at V2
          have HV2 := Lib.hid V2
          clear V2
          go_wp2_with fail
          refine HV2.out.mono ?_
          rintro e W9 ⟨rfl, v2, v3⟩
          have HG := Lib.hid (HF.out W9 ⟨rfl, v2, (Drawn.upd ⟨nq, rfl⟩).trans v3⟩)
          clear v2 v3
          go_wp2_with fail
          (try simp only [Exit.inBlock, Exit.then])
          refine bodyPost_ret (v := .tuple #[]) (by simp [results, Try.results63, go_sem]) rfl ?_
          exact HG.out
        · have HF : Hid (∀ t : Nat, VisPost w B g c nn cap capm (some ⟨bb, off, none⟩) b ll kind q k N ((Tr.node x r ta tb).vis kind q k h).1 (s + ((Tr.node x r ta tb).vis kind q k h).2) (.returned (.tuple #[])) (W7.drewN t)) := Lib.hid fun t => by
            rw [HLAW.out, if_neg hcc]
            dsimp only
            rw [show s + (1 + pn) = s + 1 + pn by omega]
            exact ⟨rfl, HS7.out.drawn ⟨t, rfl⟩, HU7.out.trans (Drawn.upd ⟨t, rfl⟩)⟩
          have hcd : decide (r ≤ d + R) = false := decide_eq_false hcc
          clear hcc HLAW HS6 HM6
          go_wp2_with fail
          go_quiet ((go_at_call 83; exact quiet_drawn (RC.out _)))
          go_wp2_with fail
          (try simp only [Exit.inBlock, Exit.then])
          refine bodyPost_ret (v := .tuple #[]) (by simp [results, Try.results63, go_sem]) rfl ?_
          exact HF.out _
      · have HLAW := Lib.hid (vis_out (a := ta) (b := tb) HED.out HE1.out hdr)
        have V1 := IB.out (i + 1 + ta.size) SB.out HIB.out W6 h1 (s + 1) HS6.out HL1.out.2 HL1.out.1.2.1 (by have : s + (1 + ta.size + tb.size) ≤ 1000 := hs; omega)
        rw [HNB.out] at V1
        have hp2 := Tr.vis_le kind q k tb h1
        have hp3 := Tr.vis_len kind q k tb h1 HL1.out.1.2.1
        have hp4 := Tr.vis_wh kind q k tb h1 HL1.out.2.1
        have hp5 := vis_bd (kind := kind) (t := tb) (k := k) HL1.out.2.2 (vecB_coords HQ.out) (fun z hz => by
          obtain ⟨j', hj', rfl⟩ := HIB.out z hz
          exact vecB_coords (storeB_vec HST.out hj'))
        obtain ⟨⟨p, pn⟩, ep⟩ : ∃ p, tb.vis kind q k h1 = p := ⟨_, rfl⟩
        rw [ep] at V1 HLAW hp2 hp3 hp4 hp5
        dsimp only at V1 HLAW hp2 hp3 hp4 hp5
        have hrb := rch_bd hp5 hk.1
        have HP := Lib.hid (And.intro hp2 (And.intro hp3 (And.intro hp4 hp5)))
        obtain ⟨R, eR⟩ : ∃ R, rch k p = R := ⟨_, rfl⟩
        rw [eR] at HLAW hrb
        have HR := Lib.hid eR
        have HV1 := Lib.hid V1
        clear hp2 hp3 hp4 hp5 ep eR V1
        go_wp2_with fail
        refine HV1.out.mono ?_
        rintro e W7 ⟨rfl, hS7, hu7⟩
        have n1 := hu7.cell HM6.out.1 (.inr hBlt)
        have n2 := hu7.cell HM6.out.2.1 (.inr hBlt)
        have n3 := hu7.cell HM6.out.2.2 (.inr hBlt)
        have HS7 := Lib.hid hS7
        have HU7 := Lib.hid (HUW.out.trans hu7)
        obtain ⟨ha7, hc7, hb7, hh7, -⟩ := hS7.box
        have RC := Lib.hid fun t : Nat => reach_any (W7.drewN t) B _ _ hc7 k _ _ _ kind _ ha7 p (hb7.drawn ⟨t, rfl⟩) (hh7.drawn ⟨t, rfl⟩) hk.1 (by have := HP.out.2.1; omega)
        rw [HR.out] at RC
        have hdb := HDB.out
        have hwr : IntKind.i64.wrap (d - R) = d - R := wrap_in (by omega)
        clear hS7 hu7 hb7 hh7 m1 m2 m3
        by_cases hcc : d - R ≤ r
        · have HF : Hid (∀ W9, VisPost W7 B g c nn cap capm (some ⟨bb, off, none⟩) b ll kind q k N (ta.vis kind q k p).1 (s + 1 + pn + (ta.vis kind q k p).2) (.returned (.tuple #[])) W9 → VisPost w B g c nn cap capm (some ⟨bb, off, none⟩) b ll kind q k N ((Tr.node x r ta tb).vis kind q k h).1 (s + ((Tr.node x r ta tb).vis kind q k h).2) (.returned (.tuple #[])) W9) := Lib.hid fun W9 hv => by
            obtain ⟨-, v2, v3⟩ := hv
            rw [HLAW.out, if_pos hcc]
            dsimp only
            rw [show s + (1 + pn + (ta.vis kind q k p).2) = s + 1 + pn + (ta.vis kind q k p).2 by omega]
            exact ⟨rfl, v2, HU7.out.trans v3⟩
          go_wp2_with fail
          go_quiet ((go_at_call 83; exact quiet_drawn (RC.out _)))
          have V2 := IA.out (i + 1) SA.out HIA.out (W7.drewN nq) p (s + 1 + pn) (HS7.out.drawn ⟨nq, rfl⟩) ⟨HP.out.2.2.1, HP.out.2.2.2⟩ HP.out.2.1 (by have : s + (1 + ta.size + tb.size) ≤ 1000 := hs; have := HP.out.1; omega)
          rw [HNA.out] at V2
          have HV2 := Lib.hid V2
          clear V2
          go_wp2_with fail
          refine HV2.out.mono ?_
          rintro e W9 ⟨rfl, v2, v3⟩
          have HG := Lib.hid (HF.out W9 ⟨rfl, v2, (Drawn.upd ⟨nq, rfl⟩).trans v3⟩)
          clear v2 v3
          go_wp2_with fail
          (try simp only [Exit.inBlock, Exit.then])
          refine bodyPost_ret (v := .tuple #[]) (by simp [results, Try.results63, go_sem]) rfl ?_
          exact HG.out
        · have HF : Hid (∀ t : Nat, VisPost w B g c nn cap capm (some ⟨bb, off, none⟩) b ll kind q k N ((Tr.node x r ta tb).vis kind q k h).1 (s + ((Tr.node x r ta tb).vis kind q k h).2) (.returned (.tuple #[])) (W7.drewN t)) := Lib.hid fun t => by
            rw [HLAW.out, if_neg hcc]
            dsimp only
            rw [show s + (1 + pn) = s + 1 + pn by omega]
            exact ⟨rfl, HS7.out.drawn ⟨t, rfl⟩, HU7.out.trans (Drawn.upd ⟨t, rfl⟩)⟩
          have hcd : decide (d - R ≤ r) = false := decide_eq_false hcc
          clear hcc HLAW HS6 HM6
          go_wp2_with fail
          go_quiet ((go_at_call 83; exact quiet_drawn (RC.out _)))
          go_wp2_with fail
          (try simp only [Exit.inBlock, Exit.then])
          refine bodyPost_ret (v := .tuple #[]) (by simp [results, Try.results63, go_sem]) rfl ?_
          exact HF.out _)
end Go.Proofs.Ytlammenejgagdaa
