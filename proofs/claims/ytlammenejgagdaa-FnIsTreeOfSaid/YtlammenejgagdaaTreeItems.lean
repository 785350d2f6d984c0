/-
  How the program compares two items by their distances to a third; what its sort of items does to a row of the call's own.
-/
import Derived.Test.YtlammenejgagdaaTreeKit
import Derived.Test.YtlammenejgagdaaNearWalks
import Derived.Deep.RegionLaw
import Derived.BigQuiet
namespace Go.Proofs.Ytlammenejgagdaa
open Go.RowKit
set_option linter.unusedVariables false

/-- how two items compare -/
def cmpIt (kind : Int) (m : List Int) (y z : It) : Int := orI (cmpI (dst kind m y.pos 4) (dst kind m z.pos 4)) (cmpI y.key z.key)
theorem cmpIt_lt (kind : Int) (m : List Int) (y z : It) : cmpIt kind m y z < 0 ↔ ltI kind m y z = true := by
  unfold ltI
  rw [ltH_iff]
  unfold cmpIt
  rw [orI_cmp, dst_comm kind m y.pos, dst_comm kind m z.pos]
  rfl
set_option maxRecDepth 100000 in
set_option maxHeartbeats 4000000 in
theorem itemCmp (w : World) (K T lo hi : Nat) (kind : Int) (x y z : It) (ax ay az : Option Addr) (cx cy cz : Nat) (hK : w.cell? ⟨K, 0, none⟩ = some (.int .i64 kind)) (hT : w.cell? ⟨T, 1, none⟩ = some (.slice ax 4 cx))
    (hx : Ints w lo hi ax x.pos) (hy : Ints w lo hi ay y.pos) (hz : Ints w lo hi az z.pos) (vx : vecB x.pos 4 = true) (vy : vecB y.pos 4 = true) (vz : vecB z.pos 4 = true) :
    Calls Try.prog 51 #[.agg #[.int .i64 y.key, .slice ay 4 cy, .int .i64 y.tags], .agg #[.int .i64 z.key, .slice az 4 cz, .int .i64 z.tags], .pointer (some ⟨K, 0, none⟩), .pointer (some ⟨T, 0, none⟩)] w fun e w' => e = .returned (.int .i64 (cmpIt kind x.pos y z)) ∧ Grew w w' := by
  have hx4 : x.pos.length = 4 := by have := vecB_len vx; omega
  have hy4 : y.pos.length = 4 := by have := vecB_len vy; omega
  have hz4 : z.pos.length = 4 := by have := vecB_len vz; omega
  have hg1 := Grew.alloc w (.cells #[.int .i64 y.key, .slice ay 4 cy, .int .i64 y.tags] 39)
  have hg2 := hg1.trans (Grew.alloc _ (.cells #[.int .i64 z.key, .slice az 4 cz, .int .i64 z.tags] 39))
  obtain ⟨j0, j1, _⟩ := cells3_new w (.int .i64 y.key) (.slice ay 4 cy) (.int .i64 y.tags) 39
  replace j0 := cell_later (below_alloc _ (.cells #[.int .i64 z.key, .slice az 4 cz, .int .i64 z.tags] 39)) j0
  replace j1 := cell_later (below_alloc _ (.cells #[.int .i64 z.key, .slice az 4 cz, .int .i64 z.tags] 39)) j1
  obtain ⟨k0, k1, _⟩ := cells3_new (w.alloc (.cells #[.int .i64 y.key, .slice ay 4 cy, .int .i64 y.tags] 39)) (.int .i64 z.key) (.slice az 4 cz) (.int .i64 z.tags) 39
  obtain ⟨W1, hW1⟩ : ∃ W1, (w.alloc (.cells #[.int .i64 y.key, .slice ay 4 cy, .int .i64 y.tags] 39)).alloc (.cells #[.int .i64 z.key, .slice az 4 cz, .int .i64 z.tags] 39) = W1 := ⟨_, rfl⟩
  rw [show (w.alloc (.cells #[.int .i64 y.key, .slice ay 4 cy, .int .i64 y.tags] 39)).heap.size = w.heap.size + 1 by simp] at k0 k1
  rw [hW1] at hg2 k0 k1 j0 j1
  have hKc := cell_later hg2.below hK
  have hTc := cell_later hg2.below hT
  have C1 := Lib.hid fun v => compare_any v (dst kind x.pos y.pos 4) (dst kind x.pos z.pos 4)
  have C2 := Lib.hid fun v => compare_any v y.key z.key
  have D1 : Hid (∀ w', Drawn W1 w' → Calls Try.prog 42 #[.int .i64 kind, .slice ax 4 cx, .slice ay 4 cy] w' fun e w2 => e = .returned (.int .i64 (dst kind x.pos y.pos 4)) ∧ Drawn w' w2) := Lib.hid fun w' hd => by
    have h := implDistance w' _ _ _ _ _ _ cx cy x.pos y.pos kind ((hx.below hg2.below).drawn hd) ((hy.below hg2.below).drawn hd) (vecB_coords vx) (vecB_coords vy) (by omega) (by omega)
    rw [hx4, hy4] at h
    exact h
  have D2 : Hid (∀ w', Drawn W1 w' → Calls Try.prog 42 #[.int .i64 kind, .slice ax 4 cx, .slice az 4 cz] w' fun e w2 => e = .returned (.int .i64 (dst kind x.pos z.pos 4)) ∧ Drawn w' w2) := Lib.hid fun w' hd => by
    have h := implDistance w' _ _ _ _ _ _ cx cz x.pos z.pos kind ((hx.below hg2.below).drawn hd) ((hz.below hg2.below).drawn hd) (vecB_coords vx) (vecB_coords vz) (by omega) (by omega)
    rw [hx4, hz4] at h
    exact h
  have HG := Lib.hid hg2
  have HC := Lib.hid (And.intro hKc (And.intro hTc (And.intro (And.intro j0 j1) (And.intro k0 k1))))
  have HR : Hid (cmpIt kind x.pos y z = orI (cmpI (dst kind x.pos y.pos 4) (dst kind x.pos z.pos 4)) (cmpI y.key z.key)) := Lib.hid rfl
  rw [HR.out]
  obtain ⟨d1, e1⟩ : ∃ d, dst kind x.pos y.pos 4 = d := ⟨_, rfl⟩
  obtain ⟨d2, e2⟩ : ∃ d, dst kind x.pos z.pos 4 = d := ⟨_, rfl⟩
  rw [e1] at D1 C1 ⊢
  rw [e2] at D2 C1 ⊢
  obtain ⟨c1, e3⟩ : ∃ c, cmpI d1 d2 = c := ⟨_, rfl⟩
  obtain ⟨c2, e4⟩ : ∃ c, cmpI y.key z.key = c := ⟨_, rfl⟩
  rw [e3] at C1 ⊢
  rw [e4] at C2 ⊢
  clear e1 e2 e3 e4 HR hg1 hg2 hK hT hx hy hz vx vy vz hx4 hy4 hz4
  have hsz : W1.heap.size = w.heap.size + 1 + 1 := by rw [← hW1]; simp
  have HDR := Lib.hid (drawn_drew W1)
  have KS := Lib.hid (show ∀ w', Drawn W1 w' → w'.cell? ⟨K, 0, none⟩ = some (.int .i64 kind) ∧ w'.cell? ⟨T, 1, none⟩ = some (.slice ax 4 cx) ∧ w'.cell? ⟨w.heap.size, 0, none⟩ = some (.int .i64 y.key) ∧ w'.cell? ⟨w.heap.size, 1, none⟩ = some (.slice ay 4 cy) ∧ w'.cell? ⟨w.heap.size + 1, 0, none⟩ = some (.int .i64 z.key) ∧ w'.cell? ⟨w.heap.size + 1, 1, none⟩ = some (.slice az 4 cz) from fun w' hd => ⟨hd.cell HC.out.1, hd.cell HC.out.2.1, hd.cell HC.out.2.2.1.1, hd.cell HC.out.2.2.1.2, hd.cell HC.out.2.2.2.1, hd.cell HC.out.2.2.2.2⟩)
  have KB := Lib.hid (show ∀ w' o, Drawn W1 w' → (w'.alloc o).cell? ⟨K, 0, none⟩ = some (.int .i64 kind) ∧ (w'.alloc o).cell? ⟨T, 1, none⟩ = some (.slice ax 4 cx) ∧ (w'.alloc o).cell? ⟨w.heap.size, 0, none⟩ = some (.int .i64 y.key) ∧ (w'.alloc o).cell? ⟨w.heap.size, 1, none⟩ = some (.slice ay 4 cy) ∧ (w'.alloc o).cell? ⟨w.heap.size + 1, 0, none⟩ = some (.int .i64 z.key) ∧ (w'.alloc o).cell? ⟨w.heap.size + 1, 1, none⟩ = some (.slice az 4 cz) from fun w' o hd => by
    have hb := below_alloc w' o
    have q := KS.out w' hd
    exact ⟨cell_later hb q.1, cell_later hb q.2.1, cell_later hb q.2.2.1, cell_later hb q.2.2.2.1, cell_later hb q.2.2.2.2.1, cell_later hb q.2.2.2.2.2⟩)
  go_enter Try.func51, Try.ntmps51
  go_wp2_with fail
  clear hW1 hKc hTc j0 j1 k0 k1
  go_region_held3 (fun w' => w'.cell? ⟨K, 0, none⟩ = some (.int .i64 kind) ∧ w'.cell? ⟨T, 1, none⟩ = some (.slice ax 4 cx) ∧ w'.cell? ⟨w.heap.size, 0, none⟩ = some (.int .i64 y.key) ∧ w'.cell? ⟨w.heap.size, 1, none⟩ = some (.slice ay 4 cy) ∧ w'.cell? ⟨w.heap.size + 1, 0, none⟩ = some (.int .i64 z.key) ∧ w'.cell? ⟨w.heap.size + 1, 1, none⟩ = some (.slice az 4 cz))
    (first | (with_reducible exact KS.out _ HDR.out) | (with_reducible exact KS.out _ HD3.out) | (with_reducible exact KB.out _ _ HD3.out) | go_keep)
    (first
      | (go_at_call 42; (first | (with_reducible refine Calls.mono (D1.out _ HD3.out) ?_) | (with_reducible refine Calls.mono (D2.out _ HD3.out) ?_)); rintro e w3 ⟨rfl, hd3⟩; replace HD3 := Lib.hid (HD3.out.trans hd3); clear hd3)
      | (go_at_call 42; (first | (with_reducible refine Calls.mono (D1.out _ HDR.out) ?_) | (with_reducible refine Calls.mono (D2.out _ HDR.out) ?_)); rintro e w3 ⟨rfl, hd3⟩; have HD3 := Lib.hid (HDR.out.trans hd3); clear hd3)
      | (go_at_call 53; (first | (with_reducible refine Calls.mono (C1.out _) ?_) | (with_reducible refine Calls.mono (C2.out _) ?_)); rintro e w4 ⟨rfl, rfl⟩)
      | (go_at_call 52; refine Calls.mono (or_any _ _ _ _ (cells2_new _ _ _ _).1 (cells2_new _ _ _ _).2) ?_; rintro e w4 ⟨rfl, rfl⟩))
  all_goals (
    have HF := Lib.hid (HG.out.trans ((Grew.drawn HD3.out).trans (Grew.alloc _ (.cells #[.int .i64 c1, .int .i64 c2] 3))))
    go_wp2_with fail
    go_ret
    exact ⟨rfl, HF.out⟩)
end Go.Proofs.Ytlammenejgagdaa
