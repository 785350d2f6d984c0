/-
  The walks of what the exact laws call on books: their sizes, copies of them, comparisons, marks.
-/
import Derived.Test.YtllahaebfhaobaaMarkSS
import Derived.Test.YtllahaebfhaobaaBookWalks
import Derived.Test.YtllahaebfhaobaaDrawBook
namespace Go.Proofs.Ytllahaebfhaobaa
open Go.RowKit
set_option linter.unusedVariables false

def SzBookPost (w : World) (L R : List (List Int)) (left : Int) (e : Ending) (w' : World) : Prop :=
  ∃ r : Int, e = .returned (.int .i64 r) ∧ (r = -1 ∨ (0 ≤ r ∧ r ≤ left ∧ LensLe L left ∧ LensLe R left)) ∧ Below w.heap.size w w'

set_option maxHeartbeats 1000000 in
theorem szBook_any (w : World) (lo hi : Nat) (a b : Option Addr) (cap cap' : Nat) (L R : List (List Int)) (left : Int) (h : Sides w lo hi a b L R) (h0 : 0 ≤ left) (h1 : left ≤ 1048576) :
    Calls Try.prog 14 #[.agg #[.slice a L.length cap, .slice b R.length cap'], .int .i64 left] w (SzBookPost w L R left) := by
  have hB : Below w.heap.size w (w.alloc (.cells #[.slice a L.length cap, .slice b R.length cap'] 39)) := (Below.refl _ _).alloc (Nat.le_refl _) _
  obtain ⟨ha, hb⟩ := h.below hB
  have k0 := cell_new w #[.slice a L.length cap, .slice b R.length cap'] 39 0
  have k1 := cell_new w #[.slice a L.length cap, .slice b R.length cap'] 39 1
  have HB := Lib.hid hB
  clear hB
  go_enter Try.func14, Try.ntmps14
  go_wp2_with fail
  refine (szIntSS_any _ _ _ _ _ _ left ha h0 h1).mono ?_
  rintro e w2 ⟨r, rfl, hr, rfl⟩
  rcases hr with rfl | ⟨r0, r1, hL⟩
  · go_wp2_with fail
    go_ret
    exact ⟨-1, rfl, .inl rfl, HB.out⟩
  · have HL := Lib.hid hL
    clear hL
    go_wp2_with fail
    refine (szIntSS_any _ _ _ _ _ _ r hb r0 (by omega)).mono ?_
    rintro e w2 ⟨r', rfl, hr, rfl⟩
    rcases hr with rfl | ⟨r2, r3, hR⟩
    · go_wp2_with fail
      go_ret
      exact ⟨-1, rfl, .inl rfl, HB.out⟩
    · have HR := Lib.hid hR
      clear hR
      go_wp2_with fail
      go_ret
      exact ⟨r', rfl, .inr ⟨r2, by omega, HL.out, HR.out.mono r1⟩, HB.out⟩

/-- a copy of a book: the left side's blocks lie below BR, the right side's from there on -/
def BookIn (w : World) (lo hi BL BR : Nat) (bl br : Nat → Nat) (L R : List (List Int)) : Prop := SSIn w lo BR BL bl L ∧ SSIn w BR hi BR br R
def ToBookPost (w : World) (L R : List (List Int)) (e : Ending) (w' : World) : Prop :=
  ∃ BL BR bl br, e = .returned (.agg #[.slice (some ⟨BL, 0, none⟩) L.length L.length, .slice (some ⟨BR, 0, none⟩) R.length R.length]) ∧ BookIn w' w.heap.size w'.heap.size BL BR bl br L R ∧ Below w.heap.size w w'
theorem BookIn.sides {w : World} {lo hi BL BR : Nat} {bl br : Nat → Nat} {L R : List (List Int)} (h : BookIn w lo hi BL BR bl br L R) : Sides w 0 w.heap.size (some ⟨BL, 0, none⟩) (some ⟨BR, 0, none⟩) L R := ⟨h.1.lists, h.2.lists⟩
theorem BookIn.below {w w' : World} {lo hi BL BR : Nat} {bl br : Nat → Nat} {L R : List (List Int)} (h : BookIn w lo hi BL BR bl br L R) (u : Below w.heap.size w w') : BookIn w' lo hi BL BR bl br L R := ⟨h.1.below u, h.2.below u⟩
theorem BookIn.drawn {w w' : World} {lo hi BL BR : Nat} {bl br : Nat → Nat} {L R : List (List Int)} (h : BookIn w lo hi BL BR bl br L R) (u : Drawn w w') : BookIn w' lo hi BL BR bl br L R := ⟨h.1.drawn u, h.2.drawn u⟩

/-- three new blocks -/
theorem alloc3 (w : World) (x y z : Array Value) (t u v : TypeId) :
    (((w.alloc (.cells x t)).alloc (.cells y u)).alloc (.cells z v)).heap[w.heap.size]? = some (.cells x t (0, 0)) ∧ (((w.alloc (.cells x t)).alloc (.cells y u)).alloc (.cells z v)).heap[w.heap.size + 1]? = some (.cells y u (0, 0)) ∧
    (((w.alloc (.cells x t)).alloc (.cells y u)).alloc (.cells z v)).heap[w.heap.size + 1 + 1]? = some (.cells z v (0, 0)) ∧ Below w.heap.size w (((w.alloc (.cells x t)).alloc (.cells y u)).alloc (.cells z v)) ∧ (((w.alloc (.cells x t)).alloc (.cells y u)).alloc (.cells z v)).heap.size = w.heap.size + 1 + 1 + 1 := by
  have s1 : (w.alloc (.cells x t)).heap.size = w.heap.size + 1 := by simp
  have s2 : ((w.alloc (.cells x t)).alloc (.cells y u)).heap.size = w.heap.size + 1 + 1 := by simp
  have q0 := heap_alloc_new w (.cells x t)
  have q1 := heap_alloc_new (w.alloc (.cells x t)) (.cells y u)
  have q2 := heap_alloc_new ((w.alloc (.cells x t)).alloc (.cells y u)) (.cells z v)
  rw [s1] at q1
  rw [s2] at q2
  refine ⟨?_, ?_, q2, ((Below.refl _ _).alloc (Nat.le_refl _) _ |>.alloc (by rw [s1]; omega) _).alloc (by rw [s2]; omega) _, by simp⟩
  · rw [Below.heap_alloc _ _ _ (by rw [s2]; omega), Below.heap_alloc _ _ _ (by rw [s1]; omega)]
    exact q0
  · rw [Below.heap_alloc _ _ _ (by rw [s2]; omega)]
    exact q1
theorem set2_0 {w : World} {B : Nat} {x y : Value} {t : TypeId} (h : w.heap[B]? = some (.cells #[x, y] t (0, 0))) (u : Value) : (w.setCell ⟨B, 0, none⟩ u).heap[B]? = some (.cells #[u, y] t (0, 0)) := by simp [World.setCell, Array.getElem?_modify, h]
theorem set2_1 {w : World} {B : Nat} {x y : Value} {t : TypeId} (h : w.heap[B]? = some (.cells #[x, y] t (0, 0))) (u : Value) : (w.setCell ⟨B, 1, none⟩ u).heap[B]? = some (.cells #[x, u] t (0, 0)) := by simp [World.setCell, Array.getElem?_modify, h]

set_option maxHeartbeats 1000000 in
theorem toBook_any (w : World) (lo hi : Nat) (a b : Option Addr) (cap cap' : Nat) (L R : List (List Int)) (h : Sides w lo hi a b L R) (hL : LensLe L 1048576) (hR : LensLe R 1048576) :
    Calls Try.prog 16 #[.agg #[.slice a L.length cap, .slice b R.length cap']] w (ToBookPost w L R) := by
  obtain ⟨X0, X1, X2, hB, hsz⟩ := alloc3 w #[.slice a L.length cap, .slice b R.length cap'] #[.slice none 0 0, .slice none 0 0] #[.slice none 0 0, .slice none 0 0] 39 25 25
  have x0 := cells2_0 X0
  have H := Lib.hid h
  have HL := Lib.hid hL
  have HR := Lib.hid hR
  clear h hL hR
  go_enter Try.func16, Try.ntmps16
  go_wp2_with fail
  obtain ⟨W, hW⟩ : ∃ W, ((w.alloc (.cells #[.slice a L.length cap, .slice b R.length cap'] 39)).alloc (.cells #[.slice none 0 0, .slice none 0 0] 25)).alloc (.cells #[.slice none 0 0, .slice none 0 0] 25) = W := ⟨_, rfl⟩
  rw [hW] at X0 X1 X2 hB hsz x0 ⊢
  have HB := Lib.hid hB
  have HSZ := Lib.hid hsz
  have HX := Lib.hid (And.intro X0 (And.intro X1 X2))
  obtain ⟨ha, hb⟩ := H.out
  clear hW hB hsz X0 X1 X2 x0
  refine (toIntSS_any W _ _ _ _ _ (ha.below HB.out) HL.out).mono ?_
  rintro e w2 ⟨bl, rfl, hss2, hb2⟩
  have HS2 := Lib.hid (SSIn.of_at hss2)
  have HB2 := Lib.hid hb2
  have hs2 : w.heap.size + 1 + 1 < w2.heap.size := by have := hb2.size; have := HSZ.out; omega
  have Y0 := (hb2.block w.heap.size (by have := HSZ.out; omega)).trans HX.out.1
  have Y1 := (hb2.block (w.heap.size + 1) (by have := HSZ.out; omega)).trans HX.out.2.1
  have Y2 := (hb2.block (w.heap.size + 1 + 1) (by have := HSZ.out; omega)).trans HX.out.2.2
  have y1 := cells2_1 Y0
  have z0 := cells2_0 Y2
  have zf := cells2_f Y2
  have HY := Lib.hid (And.intro Y0 (And.intro Y1 Y2))
  clear hss2 hb2 Y0 Y1 Y2 ha hb
  go_wp2_with fail
  obtain ⟨W2, hW2⟩ : ∃ W2, w2.setCell ⟨w.heap.size + 1 + 1, 0, none⟩ (.slice (some ⟨W.heap.size, 0, none⟩) L.length L.length) = W2 := ⟨_, rfl⟩
  have u2 : Upd (w.heap.size + 1 + 1) (w.heap.size + 1 + 1 + 1) w2 W2 := by rw [← hW2]; exact Upd.setCell _ _ _ (Nat.le_refl _) (Nat.lt_succ_self _)
  have Q2 : W2.heap[w.heap.size + 1 + 1]? = some (.cells #[.slice (some ⟨W.heap.size, 0, none⟩) L.length L.length, .slice none 0 0] 25 (0, 0)) := by rw [← hW2]; exact set2_0 HY.out.2.2 _
  rw [hW2]
  have HQ2 := Lib.hid Q2
  have HU2 := Lib.hid u2
  have hsW2 := u2.size
  have hB2 : Below w.heap.size w W2 := (HB.out.trans (HB2.out.mono (by have := HB.out.size; omega))).trans (u2.low (by omega) (by have := HB2.out.size; have := HB.out.size; omega))
  have HBW := Lib.hid hB2
  have hbr := H.out.2.below hB2
  clear hW2 u2 Q2 hB2 y1 z0 zf
  refine (toIntSS_any W2 _ _ _ _ _ hbr HR.out).mono ?_
  rintro e w3 ⟨br, rfl, hss3, hb3⟩
  have HS3 := Lib.hid (SSIn.of_at hss3)
  have HB3 := Lib.hid hb3
  have hs3 := hb3.size
  have Y1 := ((hb3.block (w.heap.size + 1) (by omega)).trans (HU2.out.block _ (by omega) (by omega))).trans HY.out.2.1
  have Y2 := (hb3.block (w.heap.size + 1 + 1) (by omega)).trans HQ2.out
  have z0 := cells2_0 Y2
  have z1 := cells2_1 Y2
  have zf := cells2_f Y2
  have q0 := cells2_0 Y1
  have q1 := cells2_1 Y1
  have qf := cells2_f Y1
  have HZ := Lib.hid (And.intro Y1 Y2)
  clear hss3 hb3 Y1 Y2 hbr
  go_wp2_with fail
  have u3 : Upd (w.heap.size + 1 + 1) (w.heap.size + 1 + 1 + 1) w3 (w3.setCell ⟨w.heap.size + 1 + 1, 1, none⟩ (.slice (some ⟨W2.heap.size, 0, none⟩) R.length R.length)) := Upd.setCell _ _ _ (Nat.le_refl _) (Nat.lt_succ_self _)
  have Y3 := (u3.block (w.heap.size + 1) (by omega) (by omega)).trans HZ.out.1
  obtain ⟨s0, s1⟩ := store2 Y3 (.slice (some ⟨W.heap.size, 0, none⟩) L.length L.length) (.slice (some ⟨W2.heap.size, 0, none⟩) R.length R.length)
  (try simp only [Exit.inBlock, Exit.then])
  refine bodyPost_ret (v := .agg #[.slice (some ⟨W.heap.size, 0, none⟩) L.length L.length, .slice (some ⟨W2.heap.size, 0, none⟩) R.length R.length]) (by simp [results, Try.results16, go_sem, s0, s1]) rfl ?_
  have u4 : Upd (w.heap.size + 1) (w.heap.size + 1 + 1) (w3.setCell ⟨w.heap.size + 1 + 1, 1, none⟩ (.slice (some ⟨W2.heap.size, 0, none⟩) R.length R.length)) (((w3.setCell ⟨w.heap.size + 1 + 1, 1, none⟩ (.slice (some ⟨W2.heap.size, 0, none⟩) R.length R.length)).setCell ⟨w.heap.size + 1, 0, none⟩ (.slice (some ⟨W.heap.size, 0, none⟩) L.length L.length)).setCell ⟨w.heap.size + 1, 1, none⟩ (.slice (some ⟨W2.heap.size, 0, none⟩) R.length R.length)) :=
    (Upd.setCell _ ⟨w.heap.size + 1, 0, none⟩ _ (Nat.le_refl _) (Nat.lt_succ_self _)).trans (Upd.setCell _ ⟨w.heap.size + 1, 1, none⟩ _ (Nat.le_refl _) (Nat.lt_succ_self _))
  have hz := HSZ.out
  have h34 := u3.size
  have h45 := u4.size
  have hbb := HBW.out
  have hb3 := HB3.out
  have L3 := ((((HS2.out.upd HU2.out (by omega)).below HB3.out).upd u3 (by omega)).upd u4 (by omega))
  have R3 := ((HS3.out.upd u3 (by omega)).upd u4 (by omega))
  refine ⟨W.heap.size, W2.heap.size, bl, br, rfl, ⟨⟨L3.1, by omega, by have := HS2.out.2.2.1; omega, fun j hj => by have := HS2.out.2.2.2 j hj; omega⟩, ⟨R3.1, Nat.le_refl _, by have := HS3.out.2.2.1; omega, fun j hj => by have := HS3.out.2.2.2 j hj; omega⟩⟩, ?_⟩
  exact ((hbb.trans (hb3.mono (by omega))).trans (u3.low (by omega) (by omega))).trans (u4.low (by omega) (by omega))

set_option maxHeartbeats 1000000 in
theorem eqBook_same (w : World) (lo hi lo' hi' : Nat) (a b a' b' : Option Addr) (cap cap' cap2 cap2' : Nat) (L R : List (List Int)) (h : Sides w lo hi a b L R) (h' : Sides w lo' hi' a' b' L R) :
    Calls Try.prog 20 #[.agg #[.slice a L.length cap, .slice b R.length cap'], .agg #[.slice a' L.length cap2, .slice b' R.length cap2']] w fun e w' => e = .returned (.bool true) ∧ Below w.heap.size w w' := by
  have B0 := (Below.refl w.heap.size w).alloc (Nat.le_refl _) (.cells #[.slice a L.length cap, .slice b R.length cap'] 25)
  have X0 := heap_alloc_new w (.cells #[.slice a L.length cap, .slice b R.length cap'] 25)
  have X1 := heap_alloc_new (w.alloc (.cells #[.slice a L.length cap, .slice b R.length cap'] 25)) (.cells #[.slice a' L.length cap2, .slice b' R.length cap2'] 25)
  have B1 := (Below.refl (w.alloc (.cells #[.slice a L.length cap, .slice b R.length cap'] 25)).heap.size (w.alloc (.cells #[.slice a L.length cap, .slice b R.length cap'] 25))).alloc (Nat.le_refl _) (.cells #[.slice a' L.length cap2, .slice b' R.length cap2'] 25)
  have X0' := (B1.block w.heap.size (by simp)).trans X0
  rw [World.size_alloc] at X1
  have S := Lib.hid ((h.below B0).below B1)
  have S' := Lib.hid ((h'.below B0).below B1)
  have HB := Lib.hid (B0.trans (B1.mono B0.size))
  have c0 := cells2_0 X0'
  have c1 := cells2_1 X0'
  have d0 := cells2_0 X1
  have d1 := cells2_1 X1
  clear B0 B1 X0 X1 X0' h h'
  go_enter Try.func20, Try.ntmps20
  go_wp2_with fail
  obtain ⟨W, hW⟩ : ∃ W, (w.alloc (.cells #[.slice a L.length cap, .slice b R.length cap'] 25)).alloc (.cells #[.slice a' L.length cap2, .slice b' R.length cap2'] 25) = W := ⟨_, rfl⟩
  rw [hW] at S S' HB c0 c1 d0 d1 ⊢
  clear hW
  refine (eqIntSS_any _ _ _ _ _ _ _ cap cap2 L L S.out.1 S'.out.1).mono ?_
  rintro e w2 ⟨rfl, hd⟩
  rw [eqLL_self]
  replace c1 := hd.cell c1
  replace d1 := hd.cell d1
  have S2 := Lib.hid (S.out.2.drawn hd)
  have S2' := Lib.hid (S'.out.2.drawn hd)
  have HB2 := Lib.hid (HB.out.trans hd.below)
  clear hd c0 d0
  go_wp2_with fail
  refine (eqIntSS_any _ _ _ _ _ _ _ cap' cap2' R R S2.out S2'.out).mono ?_
  rintro e w3 ⟨rfl, hd⟩
  rw [eqLL_self]
  have HB3 := Lib.hid (HB2.out.trans hd.below)
  clear hd c1 d1
  go_wp2_with fail
  go_ret
  exact ⟨rfl, HB3.out⟩
def MarkBookPost (w : World) (lo hi : Nat) (k : Int) (e : Ending) (w' : World) : Prop :=
  ∃ k' : Int, e = .returned (.int .i64 k') ∧ 0 ≤ k' ∧ k' ≤ k + 2199023255552 ∧ Upd lo hi w w'
set_option maxHeartbeats 1000000 in
theorem markBook_any (w : World) (lo hi BL BR : Nat) (bl br : Nat → Nat) (L R : List (List Int)) (k : Int) (h : BookIn w lo hi BL BR bl br L R) (k0 : 0 ≤ k) (k1 : k ≤ 288230376151711744) (hh : hi ≤ w.heap.size) :
    Calls Try.prog 23 #[.agg #[.slice (some ⟨BL, 0, none⟩) L.length L.length, .slice (some ⟨BR, 0, none⟩) R.length R.length], .int .i64 k] w (MarkBookPost w lo hi k) := by
  have B0 := (Below.refl w.heap.size w).alloc (Nat.le_refl _) (.cells #[.slice (some ⟨BL, 0, none⟩) L.length L.length, .slice (some ⟨BR, 0, none⟩) R.length R.length] 25)
  have X0 := heap_alloc_new w (.cells #[.slice (some ⟨BL, 0, none⟩) L.length L.length, .slice (some ⟨BR, 0, none⟩) R.length R.length] 25)
  have c0 := cells2_0 X0
  have c1 := cells2_1 X0
  have H := Lib.hid (h.below B0)
  have HB := Lib.hid B0
  have hlo := Lib.hid (show lo ≤ BR ∧ BR < hi by have := h.1.2.1; have := h.1.2.2.1; have := h.2.2.2.1; omega)
  clear B0 X0 h
  go_enter Try.func23, Try.ntmps23
  go_wp2_with fail
  obtain ⟨W, hW⟩ : ∃ W, w.alloc (.cells #[.slice (some ⟨BL, 0, none⟩) L.length L.length, .slice (some ⟨BR, 0, none⟩) R.length R.length] 25) = W := ⟨_, rfl⟩
  rw [hW] at H HB c0 c1 ⊢
  clear hW
  refine (markIntSS_any W _ _ BL bl L k H.out.1 k0 (by omega)).mono ?_
  rintro e w2 ⟨k2, rfl, q0, q1, hu2, hs2⟩
  have HR := Lib.hid (H.out.2.upd hu2 (by omega))
  replace c1 := hu2.cell c1 (by have := hlo.out; show w.heap.size < lo ∨ BR ≤ w.heap.size; omega)
  have HU2 := Lib.hid hu2
  clear hu2 hs2 c0
  go_wp2_with fail
  refine (markIntSS_any w2 _ _ BR br R k2 HR.out q0 (by omega)).mono ?_
  rintro e w3 ⟨k3, rfl, q2, q3, hu3, hs3⟩
  have HU3 := Lib.hid hu3
  clear hu3 hs3 c1
  go_wp2_with fail
  go_ret
  exact ⟨k3, rfl, q2, by omega, ((Upd.of_below HB.out).trans (HU2.out.weak (by omega) (by have := hlo.out; omega))).trans (HU3.out.weak (by have := hlo.out; omega) (by omega))⟩
end Go.Proofs.Ytllahaebfhaobaa
