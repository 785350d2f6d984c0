/-
  What DecodeVector and CodeDistances return, for all arguments, as one contract.
-/
import Derived.Test.YtnfjbjlcglfabaaDisTops
import Derived.Test.YtnfjbjlcglfabaaMarkSS
namespace Go.Proofs.Ytnfjbjlcglfabaa
open Go.RowKit
set_option linter.unusedVariables false

def decV (L R : List (List Int)) (c : Int) : List Int := if bookB L R = true ∧ 0 ≤ c ∧ c < 16 then decL L R c.toNat else []
def disV (L R : List (List Int)) (m : List Int) : List Int := if bookB L R = true ∧ vecB m 4 = true then disL L R m 16 else []
theorem decV_ok (L R : List (List Int)) (c : Int) : (∀ x ∈ decV L R c, -9223372036854775808 ≤ x ∧ x ≤ 9223372036854775807) ∧ (decV L R c).length ≤ 9223372036854775807 ∧ (decV L R c).length ≤ 1048576 := by
  unfold decV
  by_cases h : bookB L R = true ∧ 0 ≤ c ∧ c < 16
  · rw [if_pos h]
    have hv := decL_vec h.1 (show c.toNat < 16 by omega)
    have hl := vecB_len hv
    exact ⟨vecB_ok hv, by omega, by omega⟩
  · rw [if_neg h]; simp
theorem disV_ok (L R : List (List Int)) (m : List Int) : (∀ x ∈ disV L R m, -9223372036854775808 ≤ x ∧ x ≤ 9223372036854775807) ∧ (disV L R m).length ≤ 9223372036854775807 ∧ (disV L R m).length ≤ 1048576 := by
  unfold disV
  by_cases h : bookB L R = true ∧ vecB m 4 = true
  · rw [if_pos h]
    exact ⟨fun x hx => by have := disL_ok h.1 h.2 (Nat.le_refl _) x hx; omega, by rw [disL_length]; omega, by rw [disL_length]; omega⟩
  · rw [if_neg h]; simp
theorem OwnPost.new {w w' : World} {l : List Int} {e : Ending} (h : OwnPost w l e w') : NewInts w l e w' := by
  obtain ⟨g, cap, he, h1, h2, h3, h4⟩ := h
  exact ⟨_, cap, he, h3, h4⟩
theorem NilPost.new {w w' : World} {e : Ending} (h : NilPost w e w') : NewInts w [] e w' := by
  obtain ⟨rfl, hb⟩ := h
  exact NewInts.nil hb
theorem implDecodeVector_new (w : World) (lo hi : Nat) (a b : Option Addr) (cap cap' : Nat) (L R : List (List Int)) (c : Int) (h : Sides w lo hi a b L R) :
    Calls Try.prog 22 #[.agg #[.slice a L.length cap, .slice b R.length cap'], .int .i64 c] w (NewInts w (decV L R c)) := by
  by_cases hv : bookB L R = true ∧ 0 ≤ c ∧ c < 16
  · have e : decV L R c = decL L R c.toNat := if_pos hv
    have ec : c = ((c.toNat : Nat) : Int) := by omega
    rw [e]
    have := implDecodeVector_yes w lo hi a b cap cap' L R c.toNat h hv.1 (by omega)
    rw [← ec] at this
    exact this.mono fun _ _ h => h.new
  · have e : decV L R c = [] := if_neg hv
    rw [e]
    exact (implDecodeVector_no w lo hi a b cap cap' L R c h hv).mono fun _ _ h => h.new
theorem specDecodeVector_new (w : World) (lo hi : Nat) (a b : Option Addr) (cap cap' : Nat) (L R : List (List Int)) (c : Int) (h : Sides w lo hi a b L R) :
    Calls Try.prog 24 #[.agg #[.slice a L.length cap, .slice b R.length cap'], .int .i64 c] w (NewInts w (decV L R c)) := by
  by_cases hv : bookB L R = true ∧ 0 ≤ c ∧ c < 16
  · have e : decV L R c = decL L R c.toNat := if_pos hv
    have ec : c = ((c.toNat : Nat) : Int) := by omega
    rw [e]
    have := specDecodeVector_yes w lo hi a b cap cap' L R c.toNat h hv.1 (by omega)
    rw [← ec] at this
    exact this.mono fun _ _ h => h.new
  · have e : decV L R c = [] := if_neg hv
    rw [e]
    exact (specDecodeVector_no w lo hi a b cap cap' L R c h hv).mono fun _ _ h => h.new
theorem implCodeDistances_new (w : World) (lo hi lo' hi' : Nat) (a b p : Option Addr) (cap cap' capp : Nat) (L R : List (List Int)) (m : List Int) (h : Sides w lo hi a b L R) (hm : Ints w lo' hi' p m) :
    Calls Try.prog 34 #[.agg #[.slice a L.length cap, .slice b R.length cap'], .slice p m.length capp] w (NewInts w (disV L R m)) := by
  by_cases hv : bookB L R = true ∧ vecB m 4 = true
  · have e : disV L R m = disL L R m 16 := if_pos hv
    rw [e]
    exact (implCodeDistances_yes w lo hi lo' hi' a b p cap cap' capp L R m h hm hv.1 hv.2).mono fun _ _ h => h.new
  · have e : disV L R m = [] := if_neg hv
    rw [e]
    exact (implCodeDistances_no w lo hi lo' hi' a b p cap cap' capp L R m h hm hv).mono fun _ _ h => h.new
theorem specCodeDistances_new (w : World) (lo hi lo' hi' : Nat) (a b p : Option Addr) (cap cap' capp : Nat) (L R : List (List Int)) (m : List Int) (h : Sides w lo hi a b L R) (hm : Ints w lo' hi' p m) :
    Calls Try.prog 35 #[.agg #[.slice a L.length cap, .slice b R.length cap'], .slice p m.length capp] w (NewInts w (disV L R m)) := by
  by_cases hv : bookB L R = true ∧ vecB m 4 = true
  · have e : disV L R m = disL L R m 16 := if_pos hv
    rw [e]
    exact (specCodeDistances_yes w lo hi lo' hi' a b p cap cap' capp L R m h hm hv.1 hv.2).mono fun _ _ h => h.new
  · have e : disV L R m = [] := if_neg hv
    rw [e]
    exact (specCodeDistances_no w lo hi lo' hi' a b p cap cap' capp L R m h hm hv).mono fun _ _ h => h.new
end Go.Proofs.Ytnfjbjlcglfabaa
