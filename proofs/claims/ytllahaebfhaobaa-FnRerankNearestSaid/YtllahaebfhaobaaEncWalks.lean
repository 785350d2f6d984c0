/-
  The walks of the code of a vector: the program's encodeVector, the reference's encode.
-/
import Derived.Test.YtllahaebfhaobaaBookWalks
import Derived.Test.YtllahaebfhaobaaCentreWalks
import Derived.Test.YtllahaebfhaobaaOwn
namespace Go.Proofs.Ytllahaebfhaobaa
open Go.RowKit
set_option linter.unusedVariables false

set_option maxHeartbeats 1000000 in
theorem implEncode (w : World) (lo hi lo' hi' : Nat) (a b p : Option Addr) (cap cap' capp : Nat) (L R : List (List Int)) (m : List Int) (h : Sides w lo hi a b L R) (hm : Ints w lo' hi' p m) (hv : bookB L R = true) (h4 : vecB m 4 = true) (hcap : Cap m.length capp) :
    Calls Try.prog 50 #[.agg #[.slice a L.length cap, .slice b R.length cap'], .slice p m.length capp] w fun e w' => e = .returned (.int .i64 (encI L R m : Int)) ∧ Below w.heap.size w w' := by
  have hB : Below w.heap.size w (w.alloc (.cells #[.slice a L.length cap, .slice b R.length cap'] 25)) := (Below.refl _ _).alloc (Nat.le_refl _) _
  obtain ⟨ha, hb⟩ := h.below hB
  obtain ⟨l1, l2⟩ := bookB_len hv
  obtain ⟨v1, v2⟩ := bookB_vecs hv
  have t2 := vecB_take h4
  have d2 := vecB_drop h4
  have e4 := vecB_len h4
  obtain ⟨q, u, rfl, _, _, _⟩ := hm.cells (by rintro rfl; simp at e4)
  have hm' := hm.below hB
  have R1 := Lib.hid (rowsOk_of v1 t2 (by omega))
  have R2 := Lib.hid (rowsOk_of v2 d2 (by omega))
  have C1 := Lib.hid (vecB_coords t2)
  have C2 := Lib.hid (vecB_coords d2)
  have D1 := Lib.hid fun n : Nat => closestOf_any ((w.alloc (.cells #[.slice a L.length cap, .slice b R.length cap'] 25)).drewN n) _ _ _ _ _ _ cap capp L (m.take 2) (ha.drawn ⟨n, rfl⟩) ((hm'.take 2).drawn ⟨n, rfl⟩) R1.out C1.out (by omega)
  have D2 := Lib.hid fun n : Nat => closestOf_any ((w.alloc (.cells #[.slice a L.length cap, .slice b R.length cap'] 25)).drewN n) _ _ _ _ _ _ cap' (capp - 2) R (m.drop 2) (hb.drawn ⟨n, rfl⟩) ((hm'.drop 2).drawn ⟨n, rfl⟩) R2.out C2.out (by omega)
  obtain ⟨b1, b2, _⟩ := encI_bd hv m
  have HE : Hid (encI L R m = near L (m.take 2) * 4 + near R (m.drop 2)) := by show _ = _; rfl
  rw [show (m.take 2).length = 2 by simp; omega] at D1
  rw [show (m.drop 2).length = 2 by simp; omega] at D2
  obtain ⟨x, ex⟩ : ∃ x, near L (m.take 2) = x := ⟨_, rfl⟩
  obtain ⟨y, ey⟩ : ∃ y, near R (m.drop 2) = y := ⟨_, rfl⟩
  rw [ex] at D1 b1 HE
  rw [ey] at D2 b2 HE
  have hml : m.length = 4 := by omega
  obtain ⟨c1, c2⟩ := hcap
  rw [hml] at c1 ⊢
  have HB := Lib.hid hB
  clear ex ey R1 R2 C1 C2 l1 l2 v1 v2 t2 d2 e4 hml hB
  go_enter Try.func50, Try.ntmps50
  go_wp2
  go_quiet ((go_at_call 82; first | (with_reducible exact quiet_drawn (D1.out _)) | (with_reducible exact quiet_drawn (D2.out _))))
  go_wp2
  go_ret
  exact ⟨ret_int (by rw [HE.out]; go_num), HB.out.trans (Drawn.below ⟨_, rfl⟩)⟩
set_option maxHeartbeats 1000000 in
theorem specEncode (w : World) (lo hi lo' hi' : Nat) (a b p : Option Addr) (cap cap' capp : Nat) (L R : List (List Int)) (m : List Int) (h : Sides w lo hi a b L R) (hm : Ints w lo' hi' p m) (hv : bookB L R = true) (h4 : vecB m 4 = true) (hcap : Cap m.length capp) :
    Calls Try.prog 47 #[.agg #[.slice a L.length cap, .slice b R.length cap'], .slice p m.length capp] w fun e w' => e = .returned (.int .i64 (encI L R m : Int)) ∧ Below w.heap.size w w' := by
  have hB : Below w.heap.size w (w.alloc (.cells #[.slice a L.length cap, .slice b R.length cap'] 25)) := (Below.refl _ _).alloc (Nat.le_refl _) _
  obtain ⟨ha, hb⟩ := h.below hB
  obtain ⟨l1, l2⟩ := bookB_len hv
  obtain ⟨v1, v2⟩ := bookB_vecs hv
  have t2 := vecB_take h4
  have d2 := vecB_drop h4
  have e4 := vecB_len h4
  obtain ⟨q, u, rfl, _, _, _⟩ := hm.cells (by rintro rfl; simp at e4)
  have hm' := hm.below hB
  have R1 := Lib.hid (rowsOk_of v1 t2 (by omega))
  have R2 := Lib.hid (rowsOk_of v2 d2 (by omega))
  have C1 := Lib.hid (vecB_coords t2)
  have C2 := Lib.hid (vecB_coords d2)
  have D1 := Lib.hid fun n : Nat => closest_any ((w.alloc (.cells #[.slice a L.length cap, .slice b R.length cap'] 25)).drewN n) _ _ _ _ _ _ cap capp L (m.take 2) (ha.drawn ⟨n, rfl⟩) ((hm'.take 2).drawn ⟨n, rfl⟩) R1.out C1.out (by omega)
  have D2 := Lib.hid fun n : Nat => closest_any ((w.alloc (.cells #[.slice a L.length cap, .slice b R.length cap'] 25)).drewN n) _ _ _ _ _ _ cap' (capp - 2) R (m.drop 2) (hb.drawn ⟨n, rfl⟩) ((hm'.drop 2).drawn ⟨n, rfl⟩) R2.out C2.out (by omega)
  obtain ⟨b1, b2, _⟩ := encI_bd hv m
  have HE : Hid (encI L R m = near L (m.take 2) * 4 + near R (m.drop 2)) := by show _ = _; rfl
  rw [show (m.take 2).length = 2 by simp; omega] at D1
  rw [show (m.drop 2).length = 2 by simp; omega] at D2
  obtain ⟨x, ex⟩ : ∃ x, near L (m.take 2) = x := ⟨_, rfl⟩
  obtain ⟨y, ey⟩ : ∃ y, near R (m.drop 2) = y := ⟨_, rfl⟩
  rw [ex] at D1 b1 HE
  rw [ey] at D2 b2 HE
  have hml : m.length = 4 := by omega
  obtain ⟨c1, c2⟩ := hcap
  rw [hml] at c1 ⊢
  have HB := Lib.hid hB
  clear ex ey R1 R2 C1 C2 l1 l2 v1 v2 t2 d2 e4 hml hB
  go_enter Try.func47, Try.ntmps47
  go_wp2
  go_quiet ((go_at_call 81; first | (with_reducible exact quiet_drawn (D1.out _)) | (with_reducible exact quiet_drawn (D2.out _))))
  go_wp2
  go_ret
  exact ⟨ret_int (by rw [HE.out]; go_num), HB.out.trans (Drawn.below ⟨_, rfl⟩)⟩
end Go.Proofs.Ytllahaebfhaobaa
