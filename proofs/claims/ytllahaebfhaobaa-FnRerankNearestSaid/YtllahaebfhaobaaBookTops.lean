/-
  The exported functions on books of codes: EncodeVector, DecodeVector, CodeDistances of the program and of the reference.
-/
import Derived.Test.YtllahaebfhaobaaEncWalks
import Derived.Test.YtllahaebfhaobaaDecWalks
import Derived.Test.YtllahaebfhaobaaInRange
namespace Go.Proofs.Ytllahaebfhaobaa
open Go.RowKit
set_option linter.unusedVariables false

set_option maxHeartbeats 1000000 in
theorem implEncodeVector (w : World) (lo hi lo' hi' : Nat) (a b p : Option Addr) (cap cap' capp : Nat) (L R : List (List Int)) (m : List Int) (h : Sides w lo hi a b L R) (hm : Ints w lo' hi' p m) (hcap : Cap m.length capp) :
    Calls Try.prog 12 #[.agg #[.slice a L.length cap, .slice b R.length cap'], .slice p m.length capp] w fun e w' => e = .returned (.int .i64 (encV L R m)) ∧ Below w.heap.size w w' := by
  have hB : Below w.heap.size w (w.alloc (.cells #[.slice a L.length cap, .slice b R.length cap'] 25)) := (Below.refl _ _).alloc (Nat.le_refl _) _
  have h' := h.below hB
  have hm' := hm.below hB
  have K := Lib.hid (cell_new w #[.slice a L.length cap, .slice b R.length cap'] 25 0)
  have K' := Lib.hid (cell_new w #[.slice a L.length cap, .slice b R.length cap'] 25 1)
  have HC := Lib.hid hcap
  have HB := Lib.hid hB
  clear hB hcap
  cases hv : bookB L R
  · go_enter Try.func12, Try.ntmps12
    go_wp2_with fail
    refine (isBook_any _ _ _ _ _ _ _ _ _ h').mono ?_
    rintro e w2 ⟨rfl, hb2⟩
    replace HB := Lib.hid (HB.out.trans (hb2.mono HB.out.size))
    clear hb2
    go_wp2_with fail
    go_ret
    exact ⟨ret_int (encV_no1 hv).symm, HB.out⟩
  · cases h4 : vecB m 4
    · go_enter Try.func12, Try.ntmps12
      go_wp2_with fail
      refine (isBook_any _ _ _ _ _ _ _ _ _ h').mono ?_
      rintro e w2 ⟨rfl, hb2⟩
      replace hm' := hm'.below hb2
      replace HB := Lib.hid (HB.out.trans (hb2.mono HB.out.size))
      clear hb2
      go_wp2_with fail
      refine (implIsVector _ _ _ _ _ _ 4 hm').mono ?_
      rintro e w3 ⟨rfl, rfl⟩
      go_wp2_with fail
      go_ret
      exact ⟨ret_int (encV_no2 h4).symm, HB.out⟩
    · have HE := Lib.hid (encV_yes hv h4)
      have HV := Lib.hid hv
      have H4 := Lib.hid h4
      go_enter Try.func12, Try.ntmps12
      go_wp2_with fail
      refine (isBook_any _ _ _ _ _ _ _ _ _ h').mono ?_
      rintro e w2 ⟨rfl, hb2⟩
      replace hm' := hm'.below hb2
      replace h' := h'.below hb2
      have k0 := cell_later hb2 K.out
      have k1 := cell_later hb2 K'.out
      replace HB := Lib.hid (HB.out.trans (hb2.mono HB.out.size))
      clear hb2
      go_wp2_with fail
      refine (implIsVector _ _ _ _ _ _ 4 hm').mono ?_
      rintro e w3 ⟨rfl, rfl⟩
      go_wp2_with fail
      refine (implEncode _ _ _ _ _ _ _ _ _ _ _ _ _ _ h' hm' HV.out H4.out HC.out).mono ?_
      rintro e w3 ⟨rfl, hb3⟩
      replace HB := Lib.hid (HB.out.trans (hb3.mono HB.out.size))
      clear hb3
      go_wp2_with fail
      go_ret
      exact ⟨ret_int HE.out.symm, HB.out⟩
def NilPost (w : World) (e : Ending) (w' : World) : Prop := e = .returned (.slice none 0 0) ∧ Below w.heap.size w w'
theorem OwnPost.later {w w1 : World} {l : List Int} {e : Ending} {w' : World} (h : OwnPost w1 l e w') (hb : Below w.heap.size w w1) : OwnPost w l e w' := by
  obtain ⟨g, cap, h1, h2, h3, h4, h5⟩ := h
  exact ⟨g, cap, h1, h2, h3, ⟨h4.1, h4.2.imp id fun ⟨g', c', cur, q1, q2, q3⟩ => ⟨g', c', cur, q1, Nat.le_trans hb.size q2, q3⟩⟩, hb.trans (h5.mono hb.size)⟩
set_option maxHeartbeats 1000000 in
theorem implDecodeVector_no (w : World) (lo hi : Nat) (a b : Option Addr) (cap cap' : Nat) (L R : List (List Int)) (c : Int) (h : Sides w lo hi a b L R) (hc : ¬ (bookB L R = true ∧ 0 ≤ c ∧ c < 16)) :
    Calls Try.prog 11 #[.agg #[.slice a L.length cap, .slice b R.length cap'], .int .i64 c] w (NilPost w) := by
  have hB : Below w.heap.size w (w.alloc (.cells #[.slice a L.length cap, .slice b R.length cap'] 25)) := (Below.refl _ _).alloc (Nat.le_refl _) _
  have h' := h.below hB
  have K := Lib.hid (cell_new w #[.slice a L.length cap, .slice b R.length cap'] 25 0)
  have K' := Lib.hid (cell_new w #[.slice a L.length cap, .slice b R.length cap'] 25 1)
  have HB := Lib.hid hB
  clear hB
  have hcase : bookB L R = false ∨ (bookB L R = true ∧ c < 0) ∨ (bookB L R = true ∧ ¬ c < 0 ∧ 16 ≤ c) := by
    cases hv : bookB L R
    · exact .inl rfl
    · simp only [hv, true_and] at hc
      by_cases c0 : c < 0
      · exact .inr (.inl ⟨rfl, c0⟩)
      · exact .inr (.inr ⟨rfl, c0, by omega⟩)
  clear hc
  rcases hcase with hv | ⟨hv, c0⟩ | ⟨hv, c0, c1⟩
  · skip
    go_enter Try.func11, Try.ntmps11
    go_wp2_with fail
    refine (isBook_any _ _ _ _ _ _ _ _ _ h').mono ?_
    rintro e w2 ⟨rfl, hb2⟩
    replace h' := h'.below hb2
    have k0 := cell_later hb2 K.out
    have k1 := cell_later hb2 K'.out
    have HS2 := Lib.hid hb2.size
    replace HB := Lib.hid (HB.out.trans (hb2.mono HB.out.size))
    clear hb2
    go_wp2_with fail
    go_ret
    exact ⟨rfl, HB.out⟩
  · skip
    go_enter Try.func11, Try.ntmps11
    go_wp2_with fail
    refine (isBook_any _ _ _ _ _ _ _ _ _ h').mono ?_
    rintro e w2 ⟨rfl, hb2⟩
    replace h' := h'.below hb2
    have k0 := cell_later hb2 K.out
    have k1 := cell_later hb2 K'.out
    have HS2 := Lib.hid hb2.size
    replace HB := Lib.hid (HB.out.trans (hb2.mono HB.out.size))
    clear hb2
    go_wp2_with fail
    go_ret
    exact ⟨rfl, HB.out⟩
  · skip
    go_enter Try.func11, Try.ntmps11
    go_wp2_with fail
    refine (isBook_any _ _ _ _ _ _ _ _ _ h').mono ?_
    rintro e w2 ⟨rfl, hb2⟩
    replace h' := h'.below hb2
    have k0 := cell_later hb2 K.out
    have k1 := cell_later hb2 K'.out
    have HS2 := Lib.hid hb2.size
    replace HB := Lib.hid (HB.out.trans (hb2.mono HB.out.size))
    clear hb2
    go_wp2_with fail
    go_ret
    exact ⟨rfl, HB.out⟩
set_option maxHeartbeats 1000000 in
theorem implDecodeVector_yes (w : World) (lo hi : Nat) (a b : Option Addr) (cap cap' : Nat) (L R : List (List Int)) (c : Nat) (h : Sides w lo hi a b L R) (hv : bookB L R = true) (hc : c < 16) :
    Calls Try.prog 11 #[.agg #[.slice a L.length cap, .slice b R.length cap'], .int .i64 (c : Int)] w (OwnPost w (decL L R c)) := by
  have hB : Below w.heap.size w (w.alloc (.cells #[.slice a L.length cap, .slice b R.length cap'] 25)) := (Below.refl _ _).alloc (Nat.le_refl _) _
  have h' := h.below hB
  have K := Lib.hid (cell_new w #[.slice a L.length cap, .slice b R.length cap'] 25 0)
  have K' := Lib.hid (cell_new w #[.slice a L.length cap, .slice b R.length cap'] 25 1)
  have HB := Lib.hid hB
  clear hB
  have HV := Lib.hid hv
  have hc' : (c : Int) < 16 := by omega
  {
    go_enter Try.func11, Try.ntmps11
    go_wp2_with fail
    refine (isBook_any _ _ _ _ _ _ _ _ _ h').mono ?_
    rintro e w2 ⟨rfl, hb2⟩
    replace h' := h'.below hb2
    have k0 := cell_later hb2 K.out
    have k1 := cell_later hb2 K'.out
    have HS2 := Lib.hid hb2.size
    replace HB := Lib.hid (HB.out.trans (hb2.mono HB.out.size))
    clear hb2
    go_wp2_with fail
    refine (implDecode _ _ _ _ _ _ _ _ _ _ h' HV.out hc).mono ?_
    rintro e w3 ⟨g, gcap, rfl, g1, g2, hown, hb3⟩
    have HO := Lib.hid hown
    have HB3 := Lib.hid hb3
    clear hown hb3
    go_wp2_with fail
    go_ret
    exact OwnPost.later ⟨g, gcap, rfl, g1, g2, HO.out, HB3.out⟩ HB.out
  }
end Go.Proofs.Ytllahaebfhaobaa
