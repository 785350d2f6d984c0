/-
  For all codes: of the book that the code draws: ValidBook is what the reference says, a valid book with its sides exchanged is valid, and a book without its right side is not. No condition.
-/
import Derived.Test.YtnfjbjlcglfabaaRows
import Derived.Test.YtnfjbjlcglfabaaBookTops
import Derived.Test.YtnfjbjlcglfabaaDrawBookTops
import Derived.ProofKit
import Derived.OpenShut
import Derived.ShutString
import Derived.ChangeOld
namespace Go.Proofs.Ytnfjbjlcglfabaa.fnValidBook
open Go.ChangeShapes Go.WideShapes Go.ChangeAt Go.RowKit
set_option linter.unusedVariables false

set_option maxHeartbeats 1000000 in
theorem walk (a0 : Option Addr) (len0 cap0 : Nat) (z0 : List Int) (w : World) (w0 : IsRow .u8 w a0 len0 cap0 z0) :
    Calls Try.prog 3 #[.slice a0 len0 cap0] w fun e w' => e = .returned (.bool true) ∧ Below w.heap.size w w' := by
  by_cases hl : 1048576 < len0
  · clear w0
    go_enter Try.func3, Try.ntmps3
    go_wp2
    go_ret
    exact ⟨rfl, Below.refl _ _⟩
  · have H := Lib.hid (bytes_of_row w0 (by omega))
    clear w0
    go_enter Try.func3, Try.ntmps3
    go_wp2_with fail
    refine (DrawValidBook_any _ _ _ _ _ H.out).mono ?_
    rintro e w1 ⟨a1, b1, cap1, cap1', L, R, rfl, ⟨hl, -, -⟩, hb⟩
    have HB : Hid (Below w.heap.size w (w1.alloc (.cells #[.slice a1 L.length cap1, .slice b1 R.length cap1'] 25))) := Lib.hid (hb.alloc hb.size _)
    have hs : Sides (w1.alloc (.cells #[.slice a1 L.length cap1, .slice b1 R.length cap1'] 25)) 0 w1.heap.size a1 b1 L R := hl.below ((Below.refl _ _).alloc (Nat.le_refl _) _)
    have k0 := cell_new w1 #[.slice a1 L.length cap1, .slice b1 R.length cap1'] 25 0
    have k1 := cell_new w1 #[.slice a1 L.length cap1, .slice b1 R.length cap1'] 25 1
    have K0 := Lib.hid k0
    have K1 := Lib.hid k1
    have hnil : bookB L [] = false := bookB_no_len (by simp)
    have HC := Lib.hid (bookB_comm L R)
    clear hb hl k0 k1
    go_wp2_with fail
    refine (implValidBook _ _ _ _ _ _ _ _ _ hs).mono ?_
    rintro e w2 ⟨rfl, hmk⟩
    replace hs := hs.below hmk
    have k0 := cell_later hmk K0.out
    have k1 := cell_later hmk K1.out
    have K0 := Lib.hid k0
    have K1 := Lib.hid k1
    replace HB := Lib.hid (HB.out.trans (hmk.mono HB.out.size))
    clear hmk
    go_wp2_with fail
    refine (specValidBook _ _ _ _ _ _ _ _ _ hs).mono ?_
    rintro e w3 ⟨rfl, hmk⟩
    replace hs := hs.below hmk
    replace k0 := cell_later hmk k0
    replace k1 := cell_later hmk k1
    replace HB := Lib.hid (HB.out.trans (hmk.mono HB.out.size))
    clear hmk
    go_wp2_with fail
    refine (implValidBook _ _ _ _ _ _ _ _ _ (show Sides w3 0 w1.heap.size b1 a1 R L from ⟨hs.2, hs.1⟩)).mono ?_
    rintro e w4 ⟨rfl, hmk⟩
    rw [HC.out]
    replace hs := hs.below hmk
    replace k0 := cell_later hmk k0
    replace k1 := cell_later hmk k1
    replace HB := Lib.hid (HB.out.trans (hmk.mono HB.out.size))
    clear hmk
    go_wp2_with fail
    refine (implValidBook _ _ _ _ none _ 0 _ [] (show Sides w4 0 w1.heap.size a1 none L [] from ⟨hs.1, Lists.nil _ _ _ _⟩)).mono ?_
    rintro e w5 ⟨rfl, hmk⟩
    rw [hnil]
    replace HB := Lib.hid (HB.out.trans (hmk.mono HB.out.size))
    clear hmk
    go_wp2_with fail
    go_ret
    exact ⟨rfl, HB.out⟩
theorem own : ownKnob Try.prog.godebug = none := by kernel_rfl
theorem laidOut : laidOutB Try.prog = true := by kernel_rfl

set_option maxRecDepth 100000 in
theorem lifted (os : Os) (started : os.Started) (H : Type) (enc : TypeId × Value → H) :
    ReturnsInHanded {} Try.checked os 3 .any (Rows.fnValidBookSpec.pre6 enc Try.prog Try.f3 Rows.fnValidBookRow.domain false) (Rows.fnValidBookSpec.post enc Try.prog Try.f3 false true false false) := by
  refine returnsInHanded_of_change (C := Try.checked) own started (by kernel_rfl) Try.func3
    (ChangeSpec.witness6 (enc := enc) (C := Try.checked) false ⟨#[], #[.slice none 0 0], []⟩ 8 (by kernel_rfl) (by kernel_rfl) (by kernel_rfl) (by kernel_rfl)) ?_
  intro W base args ds gs before hval0 hW hcnd _
  have hval : ∀ (j : Nat) t v, Try.f3.params[j]? = some t → args[j]? = some v → Value.okWide Try.prog W .any base t v := hval0
  have hW' := hW
  obtain ⟨p, q, hA0, hV, rfl, hfz, hnd⟩ := hW
  have hA : DataW.TrodAll enc Try.prog W 0 (fun _ => true) true Try.f3.params.toList args.toList ds p := hA0
  rw [Try.params3] at hA hval
  obtain ⟨v0, vs0, d0, ds0, p0, q0, hargs, rfl, rfl, h0, r0⟩ := trodAll_cons hA
  obtain ⟨rfl, rfl, rfl⟩ := trodAll_nil r0
  obtain rfl : args = #[v0] := by cases args; simp_all
  obtain ⟨rfl, rfl⟩ := trodVars_none hV
  obtain ⟨a0, len0, cap0, rfl⟩ := okWide_slice Try.underlying22 (hval 0 22 v0 rfl rfl)
  have k0 := h0
  have lt0 : ∀ x ∈ p0, x.block < W.heap.size := by obtain ⟨m, hm⟩ := k0; exact DataW.trod_lt m _ _ _ hm
  obtain ⟨z0, w0⟩ : ∃ zs, IsRow .u8 W a0 len0 cap0 zs := by
    obtain ⟨fuel, hf⟩ := h0
    rcases open_ints Try.underlying22 Try.underlying5 (by kernel_rfl) hf with ⟨hcs, _⟩ | ⟨x, l, c, zs, hcs, _, hl, hm, hz, _, hcell, hwz⟩
    · simp [Value.cells] at hcs
      obtain ⟨rfl, rfl, rfl⟩ := hcs
      exact ⟨[], .inl ⟨rfl, rfl, rfl, rfl⟩⟩
    · simp [Value.cells] at hcs
      obtain ⟨rfl, rfl, rfl⟩ := hcs
      exact ⟨zs, .inr ⟨_, rfl, hl, hm, by simpa using hz, hcell, hwz⟩⟩
  clear hA0 hval0
  refine (walk a0 len0 cap0 z0 W w0).mono fun e W' ⟨he, bel⟩ => ?_
  subst he
  exact ⟨_, rfl, _, _, _, [], _, [], hW', trodAll_mk1 (shut_bool Try.underlying4 _), (trodAll_cons_mk (Below.trod laidOut (by kernel_rfl) (of_decide_eq_true (by kernel_rfl)) k0 bel lt0) trodAll_mk0), rfl, bel.frame _, fun h => by cases h⟩

theorem over : Rows.fnValidBookRow.holds Try.pinned (OpenSpec.ofChange Rows.fnValidBookSpec) :=
  OpenClaim.holds_of_wide 3 Try.f3 rfl rfl rfl rfl rfl rfl rfl ⟨rfl, rfl, rfl, rfl, rfl⟩ rfl rfl rfl rfl rfl (by kernel_rfl) Try.func3 (by kernel_rfl)
    (of_decide_eq_true (by kernel_rfl)) (by unfold Func.isWrapper; first | (rw [if_pos (by decide +kernel)]; kernel_rfl) | (rw [if_neg (by decide +kernel)]; exact ⟨rfl, rfl⟩))
    (fun os started H enc _ => lifted os started H enc)

/-- THE STATEMENT -/
theorem proved : Rows.FnValidBookSaid :=
  over
#print axioms proved
end Go.Proofs.Ytnfjbjlcglfabaa.fnValidBook
