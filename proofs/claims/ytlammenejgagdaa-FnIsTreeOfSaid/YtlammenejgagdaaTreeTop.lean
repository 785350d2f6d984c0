/-
  The walk of the program's buildTree.
-/
import Derived.Test.YtlammenejgagdaaTreeBuild
import Derived.Laws.EntriesVeiled
namespace Go.Proofs.Ytlammenejgagdaa
open Go.RowKit
set_option linter.unusedVariables false

/-- nodes of the call's own -/
def NewNodes (w : World) (N : List Nd) (e : Ending) (w' : World) : Prop :=
  ∃ g c, e = .returned (.slice (some ⟨g, 0, none⟩) N.length c) ∧ w'.ownsRow w.heap.size 46 4 (.slice (some ⟨g, 0, none⟩) N.length c) N.length (flatN N) ∧ Below w.heap.size w w'
set_option maxHeartbeats 2000000 in
theorem buildTree_any (w : World) (a : Option Addr) (cap : Nat) (kind : Int) (ll : List It) (hI : Items w 0 w.heap.size a ll) (hc : Cap ll.length cap) (hv : ∀ x ∈ ll, vecB x.pos 4 = true) (hp : ll.Pairwise fun a b => a.key ≠ b.key) (hn : ll.length ≤ 1000) :
    Calls Try.prog 29 #[.slice a ll.length cap, .int .i64 kind] w (NewNodes w ((tr kind ll).nds 0)) := by
  have b1 := below_alloc w (.cells #[.int .i64 kind] 3)
  have K1 := BoxB.new w (.int .i64 kind) 3
  have s1 : (w.alloc (.cells #[.int .i64 kind] 3)).heap.size = w.heap.size + 1 := by simp
  obtain ⟨W1, hW1⟩ : ∃ W1, w.alloc (.cells #[.int .i64 kind] 3) = W1 := ⟨_, rfl⟩
  rw [hW1] at b1 K1 s1
  have b2 := b1.alloc b1.size (.cells #[] 46)
  have R2 := owns_empty W1 w.heap.size 46 4 b1.size
  have K2 := K1.below (below_alloc W1 (.cells #[] 46))
  have s2 : (W1.alloc (.cells #[] 46)).heap.size = w.heap.size + 1 + 1 := by simp [s1]
  obtain ⟨W2, hW2⟩ : ∃ W2, W1.alloc (.cells #[] 46) = W2 := ⟨_, rfl⟩
  rw [hW2] at b2 K2 R2 s2
  rw [s1] at R2
  have b3 := b2.alloc b2.size (.cells #[.slice (some ⟨w.heap.size + 1, 0, none⟩) 0 0] 23)
  have R3 := R2.alloc (.cells #[.slice (some ⟨w.heap.size + 1, 0, none⟩) 0 0] 23)
  have K3 := K2.below (below_alloc W2 (.cells #[.slice (some ⟨w.heap.size + 1, 0, none⟩) 0 0] 23))
  have B3 := BoxB.new W2 (.slice (some ⟨w.heap.size + 1, 0, none⟩) 0 0) 23
  have s3 : (W2.alloc (.cells #[.slice (some ⟨w.heap.size + 1, 0, none⟩) 0 0] 23)).heap.size = w.heap.size + 1 + 1 + 1 := by simp [s2]
  obtain ⟨W3, hW3⟩ : ∃ W3, W2.alloc (.cells #[.slice (some ⟨w.heap.size + 1, 0, none⟩) 0 0] 23) = W3 := ⟨_, rfl⟩
  rw [hW3] at b3 K3 R3 B3 s3
  rw [s2] at B3
  have b4 := b3.alloc b3.size (.cells #[.nilFunc] 69)
  have R4 := R3.alloc (.cells #[.nilFunc] 69)
  have K4 := K3.below (below_alloc W3 (.cells #[.nilFunc] 69))
  have B4 := B3.below (below_alloc W3 (.cells #[.nilFunc] 69))
  have F4 := BoxB.new W3 .nilFunc 69
  have s4 : (W3.alloc (.cells #[.nilFunc] 69)).heap.size = w.heap.size + 1 + 1 + 1 + 1 := by simp [s3]
  obtain ⟨W4, hW4⟩ : ∃ W4, W3.alloc (.cells #[.nilFunc] 69) = W4 := ⟨_, rfl⟩
  rw [hW4] at b4 K4 R4 B4 F4 s4
  rw [s3] at F4
  have f4 := F4.cell
  have z4 := F4.fz 0
  have u5 := upd_set W4 (w.heap.size + 1 + 1 + 1) 0 (.func (.func 49) #[] #[.pointer (some ⟨w.heap.size, 0, none⟩), .pointer (some ⟨w.heap.size + 1 + 1, 0, none⟩), .pointer (some ⟨w.heap.size + 1 + 1 + 1, 0, none⟩)])
  have F5 := F4.set (.func (.func 49) #[] #[.pointer (some ⟨w.heap.size, 0, none⟩), .pointer (some ⟨w.heap.size + 1 + 1, 0, none⟩), .pointer (some ⟨w.heap.size + 1 + 1 + 1, 0, none⟩)])
  have b5 := b4.trans (u5.low (by omega) b4.size)
  have R5 := owns_same R4 (u5.block (w.heap.size + 1) (by omega) (by omega))
  have K5 := K4.upd u5 (by omega)
  have B5 := B4.upd u5 (by omega)
  obtain ⟨W5, hW5⟩ : ∃ W5, W4.setCell ⟨w.heap.size + 1 + 1 + 1, 0, none⟩ (.func (.func 49) #[] #[.pointer (some ⟨w.heap.size, 0, none⟩), .pointer (some ⟨w.heap.size + 1 + 1, 0, none⟩), .pointer (some ⟨w.heap.size + 1 + 1 + 1, 0, none⟩)]) = W5 := ⟨_, rfl⟩
  rw [hW5] at b5 R5 K5 B5 F5
  have f5 := F5.cell
  have CB := Lib.hid (build_any kind w.heap.size w.heap.size (w.heap.size + 1 + 1) (w.heap.size + 1 + 1 + 1) (by omega) (by omega) (by omega) ll.length ll (Nat.le_refl _) W5 (w.heap.size + 1) 0 cap 0 a [] ⟨rfl, R5, B5, K5, F5⟩ ((ItemsB.of_items hI (Nat.le_refl _)).keep (Keep.of_below b5 (t := 46) (X := fun _ => False)) (by decide) (fun _ e => e.elim) (Nat.le_refl _)) hc b5.size hv hp (by omega))
  rw [List.nil_append] at CB
  have HB5 := Lib.hid b5
  have HL : Hid (((tr kind ll).nds 0).length = ll.length) := Lib.hid (by rw [Tr.nds_length, tr_size])
  obtain ⟨N, eN⟩ : ∃ N, (tr kind ll).nds 0 = N := ⟨_, rfl⟩
  obtain ⟨tp, etp⟩ : ∃ z, (tr kind ll).top 0 = z := ⟨_, rfl⟩
  rw [eN] at CB HL ⊢
  rw [etp] at CB
  subst hW3
  subst hW2
  subst hW1
  clear b1 b2 b3 b4 b5 K1 K2 K3 K4 K5 B3 B4 B5 R2 R3 R4 R5 F4 F5 s1 s2 s3 s4 u5 hI hv hp eN etp
  go_enter Try.func29, Try.ntmps29
  go_wp2_with fail
  clear hW4 hW5
  refine CB.out.mono ?_
  rintro e w6 ⟨g6, c6, rfl, b6, k6⟩
  have n6 := b6.nod.cell
  have HF : Hid (NewNodes w N (.returned (.slice (some ⟨g6, 0, none⟩) (0 + ll.length) c6)) w6) := Lib.hid (by
    have hr := b6.row
    rw [show 0 + ll.length = N.length by rw [HL.out]; omega] at hr ⊢
    exact ⟨g6, c6, rfl, hr, HB5.out.trans (k6.below (fun q e => by subst e; omega) HB5.out.size)⟩)
  rw [Nat.zero_add] at HF n6
  clear b6 k6
  go_wp2_with fail
  go_ret
  exact HF.out
end Go.Proofs.Ytlammenejgagdaa
