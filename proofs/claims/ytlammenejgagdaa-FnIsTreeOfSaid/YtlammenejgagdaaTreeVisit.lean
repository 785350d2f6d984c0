/-
  The walks of the reference's search in a tree.
-/
import Derived.Test.YtlammenejgagdaaTreeGrow
import Derived.Test.YtlammenejgagdaaIndexWalks
import Derived.Laws.AppendOwnNone
namespace Go.Proofs.Ytlammenejgagdaa
open Go.RowKit
set_option linter.unusedVariables false

/-- append of nil at a step of a region that draws its order -/
theorem step_append_none {P : Program} {w : World} {ops : Array Oper} {o : Oper} {a : Act} {K : Act → World → Prop} {Q : Exit → Act → World → Prop} {E : Prop} (hgd : o.guard = none) (s x : Operand) (t : TypeId)
    (ho : o.op = .call { callee := .builtin .append, args := #[s, x], argTypes := #[t, t] }) (base : Nat) (e : TypeId) {z : Value} {size bytes : Nat} (ht : P.underlying t = some (.slice e))
    (hinfo : (P.info? e).map (fun i => (i.zero, i.size, i.bytes)) = some (some z, size, bytes))
    (v : Value) (n : Nat) (xs : List Value) (hs : a.eval s = v) (hown : w.ownsRow base e size v n xs) (hx : a.eval x = .slice none 0 0)
    (h : K (a.put o.dst v) w) :
    if Region.wanted o (yielded ops a.tmps) = true then Oper.wp P o a w K Q else E := by
  have hw : Region.wanted o (yielded ops a.tmps) = true := by simp [Region.wanted, hgd]
  rw [if_pos hw]
  obtain ⟨i, hi, hz, hi1, hi2⟩ := info_parts hinfo
  have hrun := run_append_owned_none (P := P) (w := w) base t o.type e i size ht hi v n xs hown
  unfold Oper.wp
  simp [execOp, ho, resolve, invoke, builtin, hs, hx, hrun, Result.andThen]
  exact h
set_option maxHeartbeats 4000000 in
theorem addHit_nil (w : World) (x : Ht) (k : Nat) (hk : k ≤ 1000) :
    Calls Try.prog 82 #[.slice none 0 0, htV x, .int .i64 (k : Int)] w (NewHitsS w ((insH x []).take k)) := by
  obtain ⟨xk, xd⟩ := x
  show Calls Try.prog 82 #[.slice none 0 0, .agg #[.int .i64 xk, .int .i64 xd], .int .i64 (k : Int)] w _
  obtain ⟨W1, hW1⟩ : ∃ W1, w.alloc (.cells #[.int .i64 xk, .int .i64 xd] 52) = W1 := ⟨_, rfl⟩
  have hsz : W1.heap.size = w.heap.size + 1 := by rw [← hW1]; simp
  have HB1 : Hid (Below w.heap.size w W1) := Lib.hid (by rw [← hW1]; exact below_alloc _ _)
  have k0 : W1.cell? ⟨w.heap.size, 0, none⟩ = some (.int .i64 xk) := by rw [← hW1]; exact (cells2_new w _ _ _).1
  have k1 : W1.cell? ⟨w.heap.size, 1, none⟩ = some (.int .i64 xd) := by rw [← hW1]; exact (cells2_new w _ _ _).2
  have HEA : Hid ((W1.drew.alloc (.cells #[] 52)).ownsRow w.heap.size 52 2 (.slice (some ⟨w.heap.size + 1, 0, none⟩) 0 0) 0 []) := Lib.hid (by
    have h := owns_empty W1.drew w.heap.size 52 2 (by show w.heap.size ≤ W1.heap.size; omega)
    rw [show W1.drew.heap.size = w.heap.size + 1 from hsz] at h
    exact h)
  have HBA : Hid (Below w.heap.size w (W1.drew.alloc (.cells #[] 52))) := Lib.hid (HB1.out.drew.alloc (by show w.heap.size ≤ W1.heap.size; omega) _)
  have HEB : Hid (((W1.drew.alloc (.cells #[] 52)).alloc (.cells #[.int .i64 xk, .int .i64 xd] 52)).ownsRow w.heap.size 52 2 (.slice (some ⟨w.heap.size + 1, 0, none⟩) 0 0) 0 []) := Lib.hid (HEA.out.alloc _)
  have HBB : Hid (Below w.heap.size w ((W1.drew.alloc (.cells #[] 52)).alloc (.cells #[.int .i64 xk, .int .i64 xd] 52))) := Lib.hid (HBA.out.alloc HBA.out.size _)
  have HXB : Hid (∀ j u, [Value.int .i64 xk, .int .i64 xd][j]? = some u → ((W1.drew.alloc (.cells #[] 52)).alloc (.cells #[.int .i64 xk, .int .i64 xd] 52)).cell? ((⟨w.heap.size + 1 + 1, 0, none⟩ : Addr).add j) = some u) := Lib.hid (by
    have h := news2_new (W1.drew.alloc (.cells #[] 52)) (.int .i64 xk) (.int .i64 xd) 52
    rw [show (W1.drew.alloc (.cells #[] 52)).heap.size = w.heap.size + 1 + 1 by rw [← hsz]; simp] at h
    exact h)
  have HBC0 : Hid (Below w.heap.size w (W1.drew.alloc (.cells #[.int .i64 xk, .int .i64 xd] 52))) := Lib.hid (HB1.out.drew.alloc (by show w.heap.size ≤ W1.heap.size; omega) _)
  have HBC : Hid (Below w.heap.size w ((W1.drew.alloc (.cells #[.int .i64 xk, .int .i64 xd] 52)).alloc (.cells #[] 52))) := Lib.hid (HBC0.out.alloc HBC0.out.size _)
  have hsC : (W1.drew.alloc (.cells #[.int .i64 xk, .int .i64 xd] 52)).heap.size = w.heap.size + 1 + 1 := by rw [← hsz]; simp
  have HEC : Hid (((W1.drew.alloc (.cells #[.int .i64 xk, .int .i64 xd] 52)).alloc (.cells #[] 52)).ownsRow w.heap.size 52 2 (.slice (some ⟨w.heap.size + 1 + 1, 0, none⟩) 0 0) 0 []) := Lib.hid (by
    have h := owns_empty (W1.drew.alloc (.cells #[.int .i64 xk, .int .i64 xd] 52)) w.heap.size 52 2 HBC0.out.size
    rw [hsC] at h
    exact h)
  have HXC : Hid (∀ j u, [Value.int .i64 xk, .int .i64 xd][j]? = some u → ((W1.drew.alloc (.cells #[.int .i64 xk, .int .i64 xd] 52)).alloc (.cells #[] 52)).cell? ((⟨w.heap.size + 1, 0, none⟩ : Addr).add j) = some u) := Lib.hid (fun j u hj => by
    have h := news2_new W1.drew (.int .i64 xk) (.int .i64 xd) 52 j u hj
    rw [show W1.drew.heap.size = w.heap.size + 1 from hsz] at h
    exact cell_later (below_alloc _ _) h)
  clear hsC
  go_enter Try.func82, Try.ntmps82
  go_wp2_with fail
  clear hW1
  go_region_law (first
    | (refine step_append_none rfl (.tmp 10) (.tmp 11) 34 rfl w.heap.size 52 Try.underlying34 infoHit (.slice (some ⟨w.heap.size + 1, 0, none⟩) 0 0) 0 [] rfl HEA.out rfl ?_)
    | (refine step_append_none rfl (.tmp 10) (.tmp 11) 34 rfl w.heap.size 52 Try.underlying34 infoHit (.slice (some ⟨w.heap.size + 1, 0, none⟩) 0 0) 0 [] rfl HEB.out rfl ?_)
    | (refine step_append_none rfl (.tmp 10) (.tmp 11) 34 rfl w.heap.size 52 Try.underlying34 infoHit (.slice (some ⟨w.heap.size + 1 + 1, 0, none⟩) 0 0) 0 [] rfl HEC.out rfl ?_)
    | (refine step_append_at rfl (.tmp 12) (.tmp 14) 34 rfl w.heap.size 52 Try.underlying34 infoHit rfl (by omega) (by omega) (.slice (some ⟨w.heap.size + 1, 0, none⟩) 0 0) 0 [] rfl HEB.out ⟨w.heap.size + 1 + 1, 0, none⟩ 1 1 [.int .i64 xk, .int .i64 xd] rfl rfl HXB.out (htCells_one ⟨xk, xd⟩) (by omega) HBB.out.size ?_
       intro v7 w7 hown7 hg7 hv7
       have HB7 : Hid (Below w.heap.size w w7) := Lib.hid (HBB.out.grown hg7 HBB.out.size (owns_block HEB.out))
       have HO7 := Lib.hid hown7
       clear hown7 hg7 hv7)
    | (refine step_append_at rfl (.tmp 12) (.tmp 14) 34 rfl w.heap.size 52 Try.underlying34 infoHit rfl (by omega) (by omega) (.slice (some ⟨w.heap.size + 1 + 1, 0, none⟩) 0 0) 0 [] rfl HEC.out ⟨w.heap.size + 1, 0, none⟩ 1 1 [.int .i64 xk, .int .i64 xd] rfl rfl HXC.out (htCells_one ⟨xk, xd⟩) (by omega) HBC.out.size ?_
       intro v7 w7 hown7 hg7 hv7
       have HB7 : Hid (Below w.heap.size w w7) := Lib.hid (HBC.out.grown hg7 HBC.out.size (owns_block HEC.out))
       have HO7 := Lib.hid hown7
       clear hown7 hg7 hv7))
  all_goals clear k0 k1
  all_goals clear HEA HBA HEB HBB HXB HBC0 HBC HEC HXC HB1
  all_goals obtain ⟨g, c, rfl, hg0, hgc, hgc2⟩ := owns_shape HO7.out (by omega)
  all_goals (
    have HF : Hid (∀ (wz : World) (n : Nat), Drawn w7 wz → n = min k 1 → NewHitsS w ((insH ⟨xk, xd⟩ []).take k) (.returned (.slice (some ⟨g, 0, none⟩) n c)) wz) := Lib.hid fun wz n hd hn => by
      refine addHit_end (HB7.out.trans ((Drawn.below hd).mono HB7.out.size)) (owns_upd HO7.out (hd.upd (lo := 0) (hi := 0)) (by omega)) hn (by omega) hgc2
    have hs7 := HB7.out.size
    clear HO7 HB7
    go_wp2_with fail
    go_loopw [8] (fun i wr => i = .int .i64 0 ∧ wr = w7) (fun i _ => 0)
    case atStart => exact ⟨rfl, rfl⟩
    case round =>
      obtain ⟨rfl, rfl⟩ := hrel
      go_wp2_with fail
      go_quiet (fail)
      by_cases hkl : k ≤ 1
      · go_wp2_with fail
        go_ret
        exact HF.out _ _ ⟨nq, rfl⟩ (by omega)
      · go_wp2_with fail
        go_ret
        exact HF.out _ _ ⟨nq, rfl⟩ (by omega))
theorem insHw_stop {x : Ht} {l : List Ht} (hs : WH l) {i : Nat} (hi : i ≤ l.length) (h1 : ∀ j, i ≤ j → j < l.length → ltH x (l.getD j Ht.no) = true) (h2 : i = 0 ∨ ltH x (l.getD (i - 1) Ht.no) = false) : insAt l x i = insH x l := by
  refine insH_cut hi h1 fun j hj => ?_
  rcases h2 with rfl | h2
  · omega
  · by_cases he : j = i - 1
    · subst he; exact h2
    · have hw : ltH (l.getD (i - 1) Ht.no) (l.getD j Ht.no) = false := by
        rw [List.getD_eq_getElem?_getD, List.getElem?_eq_getElem (show i - 1 < l.length by omega), List.getD_eq_getElem?_getD, List.getElem?_eq_getElem (show j < l.length by omega)]
        exact List.pairwise_iff_getElem.1 hs j (i - 1) (by omega) (by omega) (by omega)
      exact ltH_weak hw h2
theorem wh_take {l : List Ht} (h : WH l) (k : Nat) : WH (l.take k) := List.Pairwise.sublist (List.take_sublist _ _) h
/-- the search's variables, in block B -/
def SeekB (w : World) (B : Nat) (nv lv : Value) (kind : Int) (av : Value) (k : Int) (hv : Value) (s : Int) : Prop := w.heap[B]? = some (.cells #[nv, lv, .int .i64 kind, av, .int .i64 k, hv, .int .i64 s] 56 (0, 0))
section
variable {w : World} {B : Nat} {nv lv av hv : Value} {kind k s : Int}
theorem SeekB.c0 (h : SeekB w B nv lv kind av k hv s) : w.cell? ⟨B, 0, none⟩ = some nv := by unfold SeekB at h; simp [World.cell?, h]
theorem SeekB.c1 (h : SeekB w B nv lv kind av k hv s) : w.cell? ⟨B, 1, none⟩ = some lv := by unfold SeekB at h; simp [World.cell?, h]
theorem SeekB.c2 (h : SeekB w B nv lv kind av k hv s) : w.cell? ⟨B, 2, none⟩ = some (.int .i64 kind) := by unfold SeekB at h; simp [World.cell?, h]
theorem SeekB.c3 (h : SeekB w B nv lv kind av k hv s) : w.cell? ⟨B, 3, none⟩ = some av := by unfold SeekB at h; simp [World.cell?, h]
theorem SeekB.c4 (h : SeekB w B nv lv kind av k hv s) : w.cell? ⟨B, 4, none⟩ = some (.int .i64 k) := by unfold SeekB at h; simp [World.cell?, h]
theorem SeekB.c5 (h : SeekB w B nv lv kind av k hv s) : w.cell? ⟨B, 5, none⟩ = some hv := by unfold SeekB at h; simp [World.cell?, h]
theorem SeekB.c6 (h : SeekB w B nv lv kind av k hv s) : w.cell? ⟨B, 6, none⟩ = some (.int .i64 s) := by unfold SeekB at h; simp [World.cell?, h]
theorem SeekB.fz (h : SeekB w B nv lv kind av k hv s) (o : Nat) : w.frozen? ⟨B, o, none⟩ = false := by unfold SeekB at h; simp [World.frozen?, h]
theorem SeekB.set5 (h : SeekB w B nv lv kind av k hv s) (u : Value) : SeekB (w.setCell ⟨B, 5, none⟩ u) B nv lv kind av k u s := by unfold SeekB at *; simp [World.setCell, Array.getElem?_modify, h]
theorem SeekB.set6 (h : SeekB w B nv lv kind av k hv s) (u : Int) : SeekB (w.setCell ⟨B, 6, none⟩ (.int .i64 u)) B nv lv kind av k hv u := by unfold SeekB at *; simp [World.setCell, Array.getElem?_modify, h]
theorem SeekB.lt (h : SeekB w B nv lv kind av k hv s) : B < w.heap.size := (Array.getElem?_eq_some_iff.1 h).1
theorem SeekB.block {w' : World} (h : SeekB w B nv lv kind av k hv s) (e : w'.heap[B]? = w.heap[B]?) : SeekB w' B nv lv kind av k hv s := by unfold SeekB at *; rw [e, h]
theorem SeekB.below {w' : World} (h : SeekB w B nv lv kind av k hv s) (u : Below w.heap.size w w') : SeekB w' B nv lv kind av k hv s := h.block (u.block B h.lt)
theorem SeekB.drawn {w' : World} (h : SeekB w B nv lv kind av k hv s) (u : Drawn w w') : SeekB w' B nv lv kind av k hv s := h.below u.below
end
set_option maxHeartbeats 1000000 in
theorem reach_any (w : World) (B lo hi hc k : Nat) (nv lv av : Value) (kind s : Int) (ha : Option Addr) (h : List Ht) (hS : SeekB w B nv lv kind av (k : Int) (.slice ha h.length hc) s) (hH : Hits w lo hi ha h) (hk : 1 ≤ k) (hl : h.length ≤ 1000) :
    Calls Try.prog 83 #[.pointer (some ⟨B, 0, none⟩)] w fun e w' => e = .returned (.int .i64 (rch k h)) ∧ Drawn w w' := by
  have c4 := hS.c4
  have c5 := hS.c5
  by_cases hlt : h.length < k
  · have hr : rch k h = 1000000 := if_pos hlt
    rw [hr]
    have hlt' : (h.length : Int) < (k : Int) := by omega
    clear hS hH hr
    obtain ⟨n, en⟩ : ∃ n, h.length = n := ⟨_, rfl⟩
    rw [en] at c5 hlt'
    clear en hlt
    go_enter Try.func83, Try.ntmps83
    go_wp2_with fail
    go_quiet (fail)
    go_wp2_with fail
    go_ret
    exact ⟨rfl, ⟨_, rfl⟩⟩
  · obtain ⟨n, en⟩ : ∃ n, h.length = n + 1 := ⟨h.length - 1, by omega⟩
    have hr : rch k h = (h.getD n Ht.no).dist := by unfold rch; rw [if_neg hlt, en, Nat.add_sub_cancel]
    rw [hr]
    obtain ⟨p, off, rfl, _, _, _, q1⟩ := hH.at_ (show n < h.length by omega)
    obtain ⟨d, ed⟩ : ∃ d, (h.getD n Ht.no).dist = d := ⟨_, rfl⟩
    rw [ed] at q1 ⊢
    rw [en] at c5
    have hlt' : ¬ (n : Int) + 1 < (k : Int) := by omega
    have hwn : IntKind.i64.wrap (n : Int) = (n : Int) := wrap_in (by omega)
    have hnn : (n : Int) < (n : Int) + 1 := by omega
    clear hS hH hr en ed hlt
    go_enter Try.func83, Try.ntmps83
    go_wp2_with fail
    go_quiet (fail)
    go_wp2_with fail
    go_quiet (fail)
    go_wp2_with fail
    go_ret
    exact ⟨rfl, ⟨_, World.drewN_drewN _ _ _⟩⟩
end Go.Proofs.Ytlammenejgagdaa
