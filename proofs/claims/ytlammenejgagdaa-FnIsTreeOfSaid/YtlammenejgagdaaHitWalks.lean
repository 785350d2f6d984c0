/-
  The walks of the reference's nearer and addHit.
-/
import Derived.Test.YtlammenejgagdaaHits
import Derived.Test.YtlammenejgagdaaItemOwn
import Derived.Test.YtlammenejgagdaaDistWalks
import Derived.Deep.RegionHeld3
import Derived.Deep.RegionLaw
import Derived.Deep.AppendLies
import Derived.Laws.AppendOwnNone
import Derived.BigQuiet
namespace Go.Proofs.Ytlammenejgagdaa
open Go.RowKit
set_option linter.unusedVariables false

set_option maxHeartbeats 1000000 in
theorem nearer_any (w : World) (x y : Ht) : Calls Try.prog 74 #[htV x, htV y] w fun e w' => e = .returned (.bool (ltH x y)) ∧ Below w.heap.size w w' := by
  obtain ⟨xk, xd⟩ := x
  obtain ⟨yk, yd⟩ := y
  show Calls Try.prog 74 #[.agg #[.int .i64 xk, .int .i64 xd], .agg #[.int .i64 yk, .int .i64 yd]] w _
  have HB : Hid (Below w.heap.size w ((w.alloc (.cells #[.int .i64 xk, .int .i64 xd] 52)).alloc (.cells #[.int .i64 yk, .int .i64 yd] 52))) := Lib.hid (((Below.refl _ _).alloc (Nat.le_refl _) _).alloc (by simp) _)
  by_cases h1 : xd < yd
  · have HE : Hid (ltH ⟨xk, xd⟩ ⟨yk, yd⟩ = true) := Lib.hid (ltH_iff.2 (.inl h1))
    rw [HE.out]
    go_enter Try.func74, Try.ntmps74
    go_wp2_with fail
    go_ret
    exact ⟨ret_bool (by simp), HB.out⟩
  · have d1 : decide (xd < yd) = false := decide_eq_false h1
    by_cases h2 : xd = yd
    · subst h2
      have d2 : (xd == xd) = true := beq_self_eq_true _
      have HE : Hid (ltH ⟨xk, xd⟩ ⟨yk, xd⟩ = decide (xk < yk)) := Lib.hid (by unfold ltH; simp)
      rw [HE.out]
      go_enter Try.func74, Try.ntmps74
      go_wp2_with fail
      go_ret
      exact ⟨rfl, HB.out⟩
    · have d2 : (xd == yd) = false := by rw [beq_eq_false_iff_ne]; exact h2
      have HE : Hid (ltH ⟨xk, xd⟩ ⟨yk, yd⟩ = false) := Lib.hid (by rw [ltH_no]; show ¬ (xd < yd ∨ (xd = yd ∧ xk < yk)); omega)
      rw [HE.out]
      clear h2
      go_enter Try.func74, Try.ntmps74
      go_wp2_with fail
      go_ret
      exact ⟨rfl, HB.out⟩
/-- append at a step of a region that draws its order; nothing may be appended -/
theorem step_append_at {P : Program} {w : World} {ops : Array Oper} {o : Oper} {a : Act} {K : Act → World → Prop} {Q : Exit → Act → World → Prop} {E : Prop} (hgd : o.guard = none) (s x : Operand) (t : TypeId)
    (ho : o.op = .call { callee := .builtin .append, args := #[s, x], argTypes := #[t, t] }) (base : Nat) (e : TypeId) {z : Value} {size bytes : Nat} (ht : P.underlying t = some (.slice e))
    (hinfo : (P.info? e).map (fun i => (i.zero, i.size, i.bytes)) = some (some z, size, bytes)) (hzs : z.cells.size = size) (hsz : 0 < size) (hby : bytes ≤ 64)
    (v : Value) (n : Nat) (xs : List Value) (hs : a.eval s = v) (hown : w.ownsRow base e size v n xs) (ad : Addr) (m c : Nat) (news : List Value) (hx : a.eval x = .slice (some ad) m c)
    (hl : news.length = m * size) (hnews : ∀ j u, news[j]? = some u → w.cell? (ad.add j) = some u) (h1 : ∀ u ∈ news, u.oneCell' = true) (hn : n + m ≤ 1099511627775) (hbase : base ≤ w.heap.size)
    (h : ∀ v' w', w'.ownsRow base e size v' (n + m) (xs ++ news) → w.grownBy w' v.ownBlock → (v' = .slice none 0 0 ↔ v = .slice none 0 0 ∧ m = 0) → K (a.put o.dst v') w') :
    if Region.wanted o (yielded ops a.tmps) = true then Oper.wp P o a w K Q else E := by
  have hw : Region.wanted o (yielded ops a.tmps) = true := by simp [Region.wanted, hgd]
  rw [if_pos hw]
  obtain ⟨i, hi, hz, hi1, hi2⟩ := info_parts hinfo
  refine wp_append_own w s x t ho base e i z size bytes ht hi hz hi1 hi2 hzs hsz v n xs hs hown ad m c news hx hl hnews h1 (by unfold maxLen; omega) ?_ hbase h
  have : (n + m) * bytes ≤ 1099511627776 * 64 := Nat.mul_le_mul (by omega) hby
  omega
theorem news2_new (w : World) (x y : Value) (t : TypeId) : ∀ j u, [x, y][j]? = some u → (w.alloc (.cells #[x, y] t)).cell? ((⟨w.heap.size, 0, none⟩ : Addr).add j) = some u := fun j u hj => by
  rw [add_none, Nat.zero_add, cell_new]
  simpa using hj
theorem upd_set4 (w : World) (B o1 o2 o3 o4 : Nat) (u1 u2 u3 u4 : Value) : Upd B (B + 1) w ((((w.setCell ⟨B, o1, none⟩ u1).setCell ⟨B, o2, none⟩ u2).setCell ⟨B, o3, none⟩ u3).setCell ⟨B, o4, none⟩ u4) :=
  (upd_set w B o1 u1).trans ((upd_set _ B o2 u2).trans ((upd_set _ B o3 u3).trans (upd_set _ B o4 u4)))
/-- .. from the first cells of a row -/
def NewHitsS (w : World) (l : List Ht) (e : Ending) (w' : World) : Prop :=
  ∃ g cap, e = .returned (.slice (some ⟨g, 0, none⟩) l.length cap) ∧ HitsO w' w.heap.size w'.heap.size (some ⟨g, 0, none⟩) l ∧ Cap l.length cap ∧ Below w.heap.size w w'
theorem NewHitsS.new {w w' : World} {l : List Ht} {e : Ending} (h : NewHitsS w l e w') : NewHits w l e w' := by
  obtain ⟨g, cap, h⟩ := h
  exact ⟨_, cap, h⟩
theorem addHit_end {w w' : World} {g c n k k' : Nat} {L : List Ht} (hb : Below w.heap.size w w') (ho : w'.ownsRow w.heap.size 52 2 (.slice (some ⟨g, 0, none⟩) n c) n (flatH L)) (hk : k' = min k n) (hn : n ≤ c) (hc : c ≤ 9223372036854775807) :
    NewHitsS w (L.take k) (.returned (.slice (some ⟨g, 0, none⟩) k' c)) w' := by
  have hl : L.length = n := by have := ho.1; rw [flatH_length] at this; omega
  have hk2 : k' = (L.take k).length := by rw [List.length_take]; omega
  obtain ⟨a, cap, hv, h1, h2⟩ := hitsO_of_owns ho (by omega)
  simp only [Value.slice.injEq] at hv
  obtain ⟨rfl, _, rfl⟩ := hv
  subst hk2
  exact ⟨g, c, rfl, h1.take k, ⟨by rw [List.length_take]; omega, hc⟩, hb⟩
set_option maxHeartbeats 4000000 in
theorem addHit_gen (w : World) (lo hi : Nat) (p off : Nat) (cap : Nat) (l : List Ht) (x : Ht) (k : Nat) (h : Hits w lo hi (some ⟨p, off, none⟩) l) (hs : ∀ i, i ≤ l.length → (∀ j, i ≤ j → j < l.length → ltH x (l.getD j Ht.no) = true) → (i = 0 ∨ ltH x (l.getD (i - 1) Ht.no) = false) → insAt l x i = insH x l) (hl : l.length ≤ 1000) (hk : k ≤ 1000) :
    Calls Try.prog 82 #[.slice (some ⟨p, off, none⟩) l.length cap, htV x, .int .i64 (k : Int)] w (NewHitsS w ((insH x l).take k)) := by
  obtain ⟨xk, xd⟩ := x
  show Calls Try.prog 82 #[.slice (some ⟨p, off, none⟩) l.length cap, .agg #[.int .i64 xk, .int .i64 xd], .int .i64 (k : Int)] w _
  obtain ⟨W1, hW1⟩ : ∃ W1, w.alloc (.cells #[.int .i64 xk, .int .i64 xd] 52) = W1 := ⟨_, rfl⟩
  have hsz : W1.heap.size = w.heap.size + 1 := by rw [← hW1]; simp
  have HB1 : Hid (Below w.heap.size w W1) := Lib.hid (by rw [← hW1]; exact below_alloc _ _)
  have k0 : W1.cell? ⟨w.heap.size, 0, none⟩ = some (.int .i64 xk) := by rw [← hW1]; exact (cells2_new w _ _ _).1
  have k1 : W1.cell? ⟨w.heap.size, 1, none⟩ = some (.int .i64 xd) := by rw [← hW1]; exact (cells2_new w _ _ _).2
  have HN := Lib.hid (h.below HB1.out).vals
  have HL := Lib.hid (flatH_length l)
  obtain ⟨O, hO⟩ : ∃ O, Obj.cells #[] 52 = O := ⟨_, rfl⟩
  obtain ⟨X, hX⟩ : ∃ X, Obj.cells #[.int .i64 xk, .int .i64 xd] 52 = X := ⟨_, rfl⟩
  have HEA : Hid ((W1.drew.alloc (.cells #[] 52)).ownsRow w.heap.size 52 2 (.slice (some ⟨w.heap.size + 1, 0, none⟩) 0 0) 0 []) := Lib.hid (by
    have h := owns_empty W1.drew w.heap.size 52 2 (by show w.heap.size ≤ W1.heap.size; omega)
    rw [show W1.drew.heap.size = w.heap.size + 1 from hsz] at h
    exact h)
  have HBA : Hid (Below w.heap.size w (W1.drew.alloc (.cells #[] 52))) := Lib.hid (HB1.out.drew.alloc (by show w.heap.size ≤ W1.heap.size; omega) _)
  have HEB : Hid (((W1.drew.alloc (.cells #[] 52)).alloc (.cells #[.int .i64 xk, .int .i64 xd] 52)).ownsRow w.heap.size 52 2 (.slice (some ⟨w.heap.size + 1, 0, none⟩) 0 0) 0 []) := Lib.hid (HEA.out.alloc _)
  have HBB : Hid (Below w.heap.size w ((W1.drew.alloc (.cells #[] 52)).alloc (.cells #[.int .i64 xk, .int .i64 xd] 52))) := Lib.hid (HBA.out.alloc HBA.out.size _)
  have HXB : Hid (∀ j u, [Value.int .i64 xk, .int .i64 xd][j]? = some u → ((W1.drew.alloc (.cells #[] 52)).alloc (.cells #[.int .i64 xk, .int .i64 xd] 52)).cell? ((⟨w.heap.size + 1 + 1, 0, none⟩ : Addr).add j) = some u) := Lib.hid (by
    have h := news2_new (W1.drew.alloc (.cells #[] 52)) (.int .i64 xk) (.int .i64 xd) 52
    rw [show (W1.drew.alloc (.cells #[] 52)).heap.size = w.heap.size + 1 + 1 by rw [← hsz]; simp] at h
    exact h)
  have HBC0 : Hid (Below w.heap.size w (W1.drew.alloc (.cells #[.int .i64 xk, .int .i64 xd] 52))) := Lib.hid (HB1.out.drew.alloc (by show w.heap.size ≤ W1.heap.size; omega) _)
  have HBC : Hid (Below w.heap.size w ((W1.drew.alloc (.cells #[.int .i64 xk, .int .i64 xd] 52)).alloc (.cells #[] 52))) := Lib.hid (HBC0.out.alloc HBC0.out.size _)
  have hsC : (W1.drew.alloc (.cells #[.int .i64 xk, .int .i64 xd] 52)).heap.size = w.heap.size + 1 + 1 := by rw [← hsz]; simp
  have HEC : Hid (((W1.drew.alloc (.cells #[.int .i64 xk, .int .i64 xd] 52)).alloc (.cells #[] 52)).ownsRow w.heap.size 52 2 (.slice (some ⟨w.heap.size + 1 + 1, 0, none⟩) 0 0) 0 []) := Lib.hid (by
    have h := owns_empty (W1.drew.alloc (.cells #[.int .i64 xk, .int .i64 xd] 52)) w.heap.size 52 2 HBC0.out.size
    rw [hsC] at h
    exact h)
  have HXC : Hid (∀ j u, [Value.int .i64 xk, .int .i64 xd][j]? = some u → ((W1.drew.alloc (.cells #[.int .i64 xk, .int .i64 xd] 52)).alloc (.cells #[] 52)).cell? ((⟨w.heap.size + 1, 0, none⟩ : Addr).add j) = some u) := Lib.hid (fun j u hj => by
    have h := news2_new W1.drew (.int .i64 xk) (.int .i64 xd) 52 j u hj
    rw [show W1.drew.heap.size = w.heap.size + 1 from hsz] at h
    exact cell_later (below_alloc _ _) h)
  clear hsC
  clear h hO hX
  go_enter Try.func82, Try.ntmps82
  go_wp2_with fail
  clear hW1
  go_region_law (first
    | (refine step_append_at rfl (.tmp 10) (.tmp 11) 34 rfl w.heap.size 52 Try.underlying34 infoHit rfl (by omega) (by omega) (.slice (some ⟨w.heap.size + 1, 0, none⟩) 0 0) 0 [] rfl HEA.out ⟨p, off, none⟩ l.length cap (flatH l) rfl HL.out (fun j u hj => cell_later ((Below.refl _ _).drew.alloc (Nat.le_refl _) _) (HN.out j u hj)) (flatH_cells l) (by omega) HBA.out.size ?_
       intro v6 w6 hown6 hg6 hv6
       have e0 : w6.cell? ⟨w.heap.size, 0, none⟩ = some (.int .i64 xk) := hg6.cell (cell_later ((Below.refl _ _).drew.alloc (Nat.le_refl _) _) k0) (by simp [Value.ownBlock])
       have e1 : w6.cell? ⟨w.heap.size, 1, none⟩ = some (.int .i64 xd) := hg6.cell (cell_later ((Below.refl _ _).drew.alloc (Nat.le_refl _) _) k1) (by simp [Value.ownBlock])
       have HB6 : Hid (Below w.heap.size w w6) := Lib.hid (HBA.out.grown hg6 HBA.out.size (owns_block HEA.out))
       have HO6 := Lib.hid hown6
       have hs6 := HB6.out.size
       clear hown6 hg6 hv6)
    | (refine step_append_at rfl (.tmp 10) (.tmp 11) 34 rfl w.heap.size 52 Try.underlying34 infoHit rfl (by omega) (by omega) (.slice (some ⟨w.heap.size + 1, 0, none⟩) 0 0) 0 [] rfl HEB.out ⟨p, off, none⟩ l.length cap (flatH l) rfl HL.out (fun j u hj => cell_later (((Below.refl _ _).drew.alloc (Nat.le_refl _) _).alloc (by simp) _) (HN.out j u hj)) (flatH_cells l) (by omega) HBB.out.size ?_
       intro v6 w6 hown6 hg6 hv6
       have HX6 : Hid (∀ j u, [Value.int .i64 xk, .int .i64 xd][j]? = some u → w6.cell? ((⟨w.heap.size + 1 + 1, 0, none⟩ : Addr).add j) = some u) := Lib.hid (fun j u hj => hg6.cell (HXB.out j u hj) (by rw [add_none]; simp [Value.ownBlock]))
       have HB6 : Hid (Below w.heap.size w w6) := Lib.hid (HBB.out.grown hg6 HBB.out.size (owns_block HEB.out))
       have HO6 := Lib.hid hown6
       have hs6 := HB6.out.size
       clear hown6 hg6 hv6)
    | (refine step_append_at rfl (.tmp 10) (.tmp 11) 34 rfl w.heap.size 52 Try.underlying34 infoHit rfl (by omega) (by omega) (.slice (some ⟨w.heap.size + 1 + 1, 0, none⟩) 0 0) 0 [] rfl HEC.out ⟨p, off, none⟩ l.length cap (flatH l) rfl HL.out (fun j u hj => cell_later (((Below.refl _ _).drew.alloc (Nat.le_refl _) _).alloc (by simp) _) (HN.out j u hj)) (flatH_cells l) (by omega) HBC.out.size ?_
       intro v6 w6 hown6 hg6 hv6
       have HX6 : Hid (∀ j u, [Value.int .i64 xk, .int .i64 xd][j]? = some u → w6.cell? ((⟨w.heap.size + 1, 0, none⟩ : Addr).add j) = some u) := Lib.hid (fun j u hj => hg6.cell (HXC.out j u hj) (by rw [add_none]; simp [Value.ownBlock]))
       have HB6 : Hid (Below w.heap.size w w6) := Lib.hid (HBC.out.grown hg6 HBC.out.size (owns_block HEC.out))
       have HO6 := Lib.hid hown6
       have hs6 := HB6.out.size
       clear hown6 hg6 hv6)
    | (refine step_append_at rfl (.tmp 12) (.tmp 14) 34 rfl w.heap.size 52 Try.underlying34 infoHit rfl (by omega) (by omega) v6 (0 + l.length) ([] ++ flatH l) rfl (HO6.out.alloc _) ⟨w6.heap.size, 0, none⟩ 1 1 [.int .i64 xk, .int .i64 xd] rfl rfl (news2_new w6 _ _ _) (htCells_one ⟨xk, xd⟩) (by omega) (by simp; omega) ?_
       intro v7 w7 hown7 hg7 hv7
       have HB7 : Hid (Below w.heap.size w w7) := Lib.hid ((HB6.out.alloc hs6 _).grown hg7 (by simp; omega) (owns_block HO6.out))
       have HO7 := Lib.hid hown7
       clear hown7 hg7 hv7)
    | (refine step_append_at rfl (.tmp 12) (.tmp 14) 34 rfl w.heap.size 52 Try.underlying34 infoHit rfl (by omega) (by omega) v6 (0 + l.length) ([] ++ flatH l) rfl (HO6.out) ⟨w.heap.size + 1 + 1, 0, none⟩ 1 1 [.int .i64 xk, .int .i64 xd] rfl rfl (HX6.out) (htCells_one ⟨xk, xd⟩) (by omega) (hs6) ?_
       intro v7 w7 hown7 hg7 hv7
       have HB7 : Hid (Below w.heap.size w w7) := Lib.hid (HB6.out.grown hg7 hs6 (owns_block HO6.out))
       have HO7 := Lib.hid hown7
       clear hown7 hg7 hv7)
    | (refine step_append_at rfl (.tmp 12) (.tmp 14) 34 rfl w.heap.size 52 Try.underlying34 infoHit rfl (by omega) (by omega) v6 (0 + l.length) ([] ++ flatH l) rfl (HO6.out) ⟨w.heap.size + 1, 0, none⟩ 1 1 [.int .i64 xk, .int .i64 xd] rfl rfl (HX6.out) (htCells_one ⟨xk, xd⟩) (by omega) (hs6) ?_
       intro v7 w7 hown7 hg7 hv7
       have HB7 : Hid (Below w.heap.size w w7) := Lib.hid (HB6.out.grown hg7 hs6 (owns_block HO6.out))
       have HO7 := Lib.hid hown7
       clear hown7 hg7 hv7))
  all_goals clear k0 k1
  all_goals clear HN HL HEA HBA HEB HBB HXB HBC0 HBC HEC HXC HB6 HO6 HB1 hs6
  all_goals obtain ⟨g, c, rfl, hg0, hgc, hgc2⟩ := owns_shape HO7.out (by omega)
  all_goals (
    have HB : Hid (Below w.heap.size w w7 ∧ w7.ownsRow w.heap.size 52 2 (.slice (some ⟨g, 0, none⟩) (l.length + 1) c) (l.length + 1) (flatH (insAt l ⟨xk, xd⟩ l.length))) := Lib.hid ⟨HB7.out, by
      have h := HO7.out
      rw [Nat.zero_add, List.nil_append, show [Value.int .i64 xk, .int .i64 xd] = flatH [⟨xk, xd⟩] from (flatH_one ⟨xk, xd⟩).symm, ← flatH_app, ← insAt_end] at h
      exact h⟩
    have hs7 := HB7.out.size
    obtain ⟨x, hx⟩ : ∃ x : Ht, x = ⟨xk, xd⟩ := ⟨_, rfl⟩
    rw [← hx] at HB hs
    have HS := Lib.hid hs
    have HX := Lib.hid hx
    clear hs hx HO7 HB7
    go_wp2_with fail
    go_loopw [8] (fun i wr => ∃ j : Nat, j ≤ l.length ∧ i = .int .i64 (j : Int) ∧ Hid (Below w.heap.size w wr ∧ wr.ownsRow w.heap.size 52 2 (.slice (some ⟨g, 0, none⟩) (l.length + 1) c) (l.length + 1) (flatH (insAt l x j))) ∧ Hid (∀ q, j ≤ q → q < l.length → ltH x (l.getD q Ht.no) = true)) (fun i _ => (intOf i).toNat)
    case atStart => exact ⟨l.length, Nat.le_refl _, by go_num, HB.out, fun q q1 q2 => absurd q1 (by omega)⟩
    case round =>
      obtain ⟨j, hj, rfl, HR, HG⟩ := hrel
      have hsr := HR.out.1.size
      by_cases hj0 : j = 0
      · subst hj0
        have HE := Lib.hid (HS.out _ hj HG.out (.inl rfl))
        go_wp2_with fail
        go_quiet (fail)
        by_cases hkl : k ≤ l.length + 1
        · go_wp2_with fail
          go_ret
          rw [← HX.out]
          exact addHit_end (HR.out.1.trans (Drawn.below ⟨nq, rfl⟩)) (by rw [← HE.out]; exact owns_upd HR.out.2 (Upd.drewN (lo := 0) (hi := 0) wr nq) (by omega)) (by omega) (by omega) hgc2
        · go_wp2_with fail
          go_ret
          rw [← HX.out]
          exact addHit_end (HR.out.1.trans (Drawn.below ⟨nq, rfl⟩)) (by rw [← HE.out]; exact owns_upd HR.out.2 (Upd.drewN (lo := 0) (hi := 0) wr nq) (by omega)) (by omega) (by omega) hgc2
      · obtain ⟨q, rfl⟩ : ∃ q, j = q + 1 := ⟨j - 1, by omega⟩
        have hL := insAt_length l x hj
        have c0 := HR.out.2.cellAt ((q + 1) * 2) (by omega)
        have c1 := HR.out.2.cellAt ((q + 1) * 2 + 1) (by omega)
        have c2 := HR.out.2.cellAt (q * 2) (by omega)
        have c3 := HR.out.2.cellAt (q * 2 + 1) (by omega)
        rw [flatH_0 (by omega), insAt_get l x Ht.no hj] at c0
        rw [flatH_1 (by omega), insAt_get l x Ht.no hj] at c1
        rw [flatH_0 (by omega), insAt_pre l x Ht.no (Nat.lt_succ_self q) hj] at c2
        rw [flatH_1 (by omega), insAt_pre l x Ht.no (Nat.lt_succ_self q) hj] at c3
        have HSW := Lib.hid (insAt_swap l x Ht.no (show q < l.length by omega))
        obtain ⟨y, ey⟩ : ∃ y, l.getD q Ht.no = y := ⟨_, rfl⟩
        rw [ey] at c2 c3 HSW
        have HEY := Lib.hid ey
        have hqn : (q : Int) + 1 < (l.length : Int) + 1 := by omega
        have hqn0 : (q : Int) < (l.length : Int) + 1 := by omega
        have hwq : IntKind.i64.wrap (q : Int) = (q : Int) := wrap_in (by omega)
        have hg0' : decide ((0 : Int) < (q : Int) + 1) = true := decide_eq_true (by omega)
        have HLL := Lib.hid hL
        have HHJ := Lib.hid hj
        have HFR := Lib.hid (fun o : Nat => HR.out.2.frozenAt o)
        have HCC := Lib.hid (And.intro c0 (And.intro c1 (And.intro c2 c3)))
        have cN := Lib.hid (met_below (fun w' hw' => nearer_any w' x y) (w := wr))
        have r0 := cell_regrown c0
        have r1 := cell_regrown c1
        have r2 := cell_regrown c2
        have r3 := cell_regrown c3
        clear ey hL c0 c1 c2 c3 hj hj0
        cases hlt : ltH x y
        · rw [hlt] at cN
          have HE := Lib.hid (HS.out _ HHJ.out HG.out (.inr (by rw [Nat.add_sub_cancel, HEY.out]; exact hlt)))
          clear hlt
          go_wp2_with fail
          refine wp_region_quiet_below (by kernel_rfl) (by kernel_rfl) ?_
          repeat (go_big_quiet_step ((go_at_call 74; exact cN.out _ _)))
          refine wpQuiet_nil ?_
          intro _ hw'
          obtain ⟨⟨dq, osq⟩, hw''⟩ := hw'
          subst hw''
          have HQ : Hid (Below wr.heap.size wr (Go.Sort.grow (redrawn wr dq) osq)) := Lib.hid (below_regrown wr dq osq)
          obtain ⟨w3, hw3⟩ : ∃ w3, Go.Sort.grow (redrawn wr dq) osq = w3 := ⟨_, rfl⟩
          rw [hw3] at HQ ⊢
          clear hw3 r0 r1 r2 r3 cN
          have HR3 : Hid (Below w.heap.size w w3 ∧ w3.ownsRow w.heap.size 52 2 (.slice (some ⟨g, 0, none⟩) (l.length + 1) c) (l.length + 1) (flatH (insAt l x (q + 1)))) := Lib.hid ⟨HR.out.1.trans (HQ.out.mono hsr), owns_upd HR.out.2 (Upd.of_below (lo := 0) (hi := 0) HQ.out) (by omega)⟩
          have hsr3 := HR3.out.1.size
          by_cases hkl : k ≤ l.length + 1
          · go_wp2_with fail
            go_ret
            rw [← HX.out]
            exact addHit_end HR3.out.1 (by rw [← HE.out]; exact HR3.out.2) (by omega) (by omega) hgc2
          · go_wp2_with fail
            go_ret
            rw [← HX.out]
            exact addHit_end HR3.out.1 (by rw [← HE.out]; exact HR3.out.2) (by omega) (by omega) hgc2
        · rw [hlt] at cN
          have HLT := Lib.hid hlt
          clear hlt
          go_wp2_with fail
          refine wp_region_quiet_below (by kernel_rfl) (by kernel_rfl) ?_
          repeat (go_big_quiet_step ((go_at_call 74; exact cN.out _ _)))
          refine wpQuiet_nil ?_
          intro _ hw'
          obtain ⟨⟨dq, osq⟩, hw''⟩ := hw'
          subst hw''
          have HQ : Hid (Below wr.heap.size wr (Go.Sort.grow (redrawn wr dq) osq)) := Lib.hid (below_regrown wr dq osq)
          obtain ⟨w3, hw3⟩ : ∃ w3, Go.Sort.grow (redrawn wr dq) osq = w3 := ⟨_, rfl⟩
          rw [hw3] at HQ ⊢
          clear hw3 r0 r1 r2 r3 cN
          have HR3 : Hid (Below w.heap.size w w3 ∧ w3.ownsRow w.heap.size 52 2 (.slice (some ⟨g, 0, none⟩) (l.length + 1) c) (l.length + 1) (flatH (insAt l x (q + 1)))) := Lib.hid ⟨HR.out.1.trans (HQ.out.mono hsr), owns_upd HR.out.2 (Upd.of_below (lo := 0) (hi := 0) HQ.out) (by omega)⟩
          have hsr3 := HR3.out.1.size
          have c0 := cell_later HQ.out HCC.out.1
          have c1 := cell_later HQ.out HCC.out.2.1
          have c2 := cell_later HQ.out HCC.out.2.2.1
          have c3 := cell_later HQ.out HCC.out.2.2.2
          have f0 := HR3.out.2.frozenAt ((q + 1) * 2)
          have f1 := HR3.out.2.frozenAt ((q + 1) * 2 + 1)
          have f2 := HR3.out.2.frozenAt (q * 2)
          have f3 := HR3.out.2.frozenAt (q * 2 + 1)
          have hglt : g < w3.heap.size := (HR3.out.2.lt g rfl).2
          go_wp2_with fail
          refine ⟨⟨q, by have := HHJ.out; omega, rfl, Lib.hid ⟨?_, ?_⟩, Lib.hid fun z z1 z2 => ?_⟩, by simp [intOf]⟩
          · exact (HR3.out.1.trans ((upd_set4 w3 g _ _ _ _ _ _ _ _).low hg0 hsr3)).alloc (by simp [World.setCell]; omega) _
          · have h := ((((HR3.out.2.stored ((q + 1) * 2) (.int .i64 y.key)).1.stored ((q + 1) * 2 + 1) (.int .i64 y.dist)).1.stored (q * 2) (.int .i64 x.key)).1.stored (q * 2 + 1) (.int .i64 x.dist)).1
            rw [flatH_set y (by rw [HLL.out]; have := HHJ.out; omega), flatH_set x (by rw [List.length_set, HLL.out]; have := HHJ.out; omega), HSW.out] at h
            exact h.alloc _
          · by_cases hzq : z = q
            · subst hzq
              rw [HEY.out]
              exact HLT.out
            · exact HG.out z (by omega) z2)
theorem addHit_any (w : World) (lo hi : Nat) (p off : Nat) (cap : Nat) (l : List Ht) (x : Ht) (k : Nat) (h : Hits w lo hi (some ⟨p, off, none⟩) l) (hs : SrtH l) (hl : l.length ≤ 1000) (hk : k ≤ 1000) :
    Calls Try.prog 82 #[.slice (some ⟨p, off, none⟩) l.length cap, htV x, .int .i64 (k : Int)] w (NewHitsS w ((insH x l).take k)) :=
  addHit_gen w lo hi p off cap l x k h (fun _ hi h1 h2 => insH_stop hs hi h1 h2) hl hk
end Go.Proofs.Ytlammenejgagdaa
