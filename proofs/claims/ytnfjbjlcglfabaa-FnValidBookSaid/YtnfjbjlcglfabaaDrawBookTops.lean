/-
  What the Draw functions of books hand over, whatever the code.
-/
import Derived.Test.YtnfjbjlcglfabaaDrawBook
namespace Go.Proofs.Ytnfjbjlcglfabaa
open Go.RowKit
set_option linter.unusedVariables false

theorem bytes_below {w w' : World} {a : Option Addr} {n cap : Nat} {f : Nat → Int} (h : Bytes w a n cap f) (u : Below w.heap.size w w') : Bytes w' a n cap f :=
  ⟨h.1, h.2.1, h.2.2.1, fun hn => by
    obtain ⟨b, off, ha, hc⟩ := h.2.2.2 hn
    exact ⟨b, off, ha, fun j hj => ⟨cell_later u (hc j hj).1, (hc j hj).2⟩⟩⟩
/-- what a Draw function hands over that draws a book -/
def DrawnBook (w : World) (e : Ending) (w' : World) : Prop :=
  ∃ (a b : Option Addr) (cap cap' : Nat) (L R : List (List Int)), e = .returned (.agg #[.slice a L.length cap, .slice b R.length cap']) ∧ (Sides w' 0 w'.heap.size a b L R ∧ Cap L.length cap ∧ Cap R.length cap') ∧ Below w.heap.size w w'
set_option maxHeartbeats 400000 in
theorem DrawValidBook_any (w : World) (a : Option Addr) (n cap : Nat) (f : Nat → Int) (h : Bytes w a n cap f) :
    Calls Try.prog 15 #[.slice a n cap] w (DrawnBook w) := by
  have hA : Below w.heap.size w (w.alloc (.cells #[.slice none 0 0, .slice none 0 0] 25)) := (Below.refl _ _).alloc (Nat.le_refl _) _
  have H := Lib.hid (bytes_below h hA)
  have HA := Lib.hid hA
  clear h hA
  go_enter Try.func15, Try.ntmps15
  go_wp2_with fail
  refine (newReader_any _ _ _ _ f H.out).mono ?_
  rintro e w1 ⟨rfl, hr, hb, hs⟩
  rw [World.size_alloc] at hr hb
  have HB := Lib.hid hb
  have hbs := hb.size
  rw [World.size_alloc] at hbs
  clear hs hb
  go_wp2_with fail
  refine (anyBook_any _ _ _ hr (by omega)).mono ?_
  rintro e w2 ⟨a2, b2, cap2, cap2', L, R, rfl, hl, hr2, hu⟩
  have HL := Lib.hid hl
  have HU := Lib.hid hu
  clear hl
  have hs2 := hu.size
  have hz : w2.heap[w.heap.size]? = some (.cells #[.slice none 0 0, .slice none 0 0] 25 (0, 0)) := by
    rw [hu.block _ (by omega) (by simp), HB.out.block _ (by simp)]
    exact heap_alloc_new w _
  have z0 := cells2_0 hz
  have z1 := cells2_1 hz
  have zf := cells2_f hz
  have HZ := Lib.hid hz
  clear hz hu
  go_wp2_with fail
  obtain ⟨c0, c1⟩ := store2 HZ.out (.slice a2 L.length cap2) (.slice b2 R.length cap2')
  (try simp only [Exit.inBlock, Exit.then])
  refine bodyPost_ret (v := .agg #[.slice a2 L.length cap2, .slice b2 R.length cap2']) (by simp [results, Try.results15, go_sem, c0, c1]) rfl ?_
  have u : Upd w.heap.size (w.heap.size + 1) w2 ((w2.setCell ⟨w.heap.size, 0, none⟩ (.slice a2 L.length cap2)).setCell ⟨w.heap.size, 1, none⟩ (.slice b2 R.length cap2')) := (Upd.setCell w2 ⟨w.heap.size, 0, none⟩ _ (Nat.le_refl _) (Nat.lt_succ_self _)).trans (Upd.setCell _ ⟨w.heap.size, 1, none⟩ _ (Nat.le_refl _) (Nat.lt_succ_self _))
  have hs3 := u.size
  have hb1 := HB.out
  have hu1 := HU.out
  refine ⟨a2, b2, cap2, cap2', L, R, rfl, ⟨(HL.out.1.upd u (by omega)).wide (Nat.zero_le _) hs3, HL.out.2⟩, ?_⟩
  exact HA.out.trans ((hb1.mono (by simp)).trans ((hu1.low (by simp) (by omega)).trans (u.low (Nat.le_refl _) (by omega))))
end Go.Proofs.Ytnfjbjlcglfabaa
