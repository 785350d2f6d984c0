/-
  The walks of AssignItems and SpreadOf, the program's and the reference's.
-/
import Derived.Test.YtfgjmfnbpbanmaaClusPlain
import Derived.Test.YtfgjmfnbpbanmaaStoreWalks
import Derived.Test.YtfgjmfnbpbanmaaVecTops
import Derived.Test.YtfgjmfnbpbanmaaDistWalks
import Derived.Test.YtfgjmfnbpbanmaaMarkSS
namespace Go.Proofs.Ytfgjmfnbpbanmaa
open Go.RowKit
set_option linter.unusedVariables false

/-- a nil slice -/
def NilR (w : World) (e : Ending) (w' : World) : Prop := e = .returned (.slice none 0 0) ∧ Below w.heap.size w w'
/-- .. as its caller reads it -/
def ReadInts (w : World) (l : List Int) (e : Ending) (w' : World) : Prop :=
  ∃ a cap, e = .returned (.slice a l.length cap) ∧ Ints w' 0 w'.heap.size a l ∧ Cap l.length cap ∧ Below w.heap.size w w'
theorem NewInts.read {w w' : World} {l : List Int} {e : Ending} (hok : ∀ x ∈ l, -9223372036854775808 ≤ x ∧ x ≤ 9223372036854775807) (hl : l.length ≤ 9223372036854775807) (h : NewInts w l e w') : ReadInts w l e w' := by
  obtain ⟨a, cap, he, h3, h4⟩ := h
  obtain ⟨a', c, hv, hi⟩ := ints_of_owns h3 hok hl
  simp only [Value.slice.injEq] at hv
  obtain ⟨rfl, _, rfl⟩ := hv
  exact ⟨a, cap, he, hi.wide (Nat.zero_le _) (Nat.le_refl _), owns_cap h3, h4⟩
theorem NewInts.mk {w w' : World} {v : Value} {n : Nat} {l : List Int} (hl : l.length = n) (ho : w'.ownsRow w.heap.size 3 1 v n (l.map (Value.int .i64))) (hb : Below w.heap.size w w') : NewInts w l (.returned v) w' := by
  subst hl
  obtain ⟨a, cap, rfl, _⟩ := owns_form ho
  exact ⟨a, cap, rfl, ho, hb⟩
theorem owns_low {w : World} {lo lo' e size n : Nat} {v : Value} {xs : List Value} (h : w.ownsRow lo e size v n xs) (hl : lo' ≤ lo) : w.ownsRow lo' e size v n xs :=
  ⟨h.1, h.2.imp id fun ⟨g', c', cur, q1, q2, q3⟩ => ⟨g', c', cur, q1, Nat.le_trans hl q2, q3⟩⟩

set_option maxHeartbeats 1000000 in
theorem implAssignItems_no (w : World) (lo hi lo' hi' : Nat) (a b : Option Addr) (cap cap' : Nat) (cs : List (List Int)) (ll : List It) (hA : Lists w lo hi a cs) (hI : Items w lo' hi' b ll) (hv : csB cs ll = false) :
    Calls Try.prog 24 #[.slice a cs.length cap, .slice b ll.length cap'] w (NilR w) := by
  have HB : Hid (Below w.heap.size w w) := Lib.hid (Below.refl _ _)
  rcases csB_cases hv with h1 | ⟨h1, h2⟩
  · go_enter Try.func24, Try.ntmps24
    go_wp2_with fail
    refine (areVectors_any _ _ _ _ _ _ 4 hA).mono ?_
    rintro e w2 ⟨rfl, rfl⟩
    go_wp2_with fail
    go_ret
    exact ⟨rfl, HB.out⟩
  · go_enter Try.func24, Try.ntmps24
    go_wp2_with fail
    refine (areVectors_any _ _ _ _ _ _ 4 hA).mono ?_
    rintro e w2 ⟨rfl, rfl⟩
    go_wp2_with fail
    refine (implValidStore _ _ _ _ _ _ hI).mono ?_
    rintro e w2 ⟨rfl, hb2⟩
    replace HB := Lib.hid (HB.out.trans (hb2.mono HB.out.size))
    clear hb2
    go_wp2_with fail
    go_ret
    exact ⟨rfl, HB.out⟩
set_option maxHeartbeats 1000000 in
theorem implAssignItems_yes (w : World) (lo hi lo' hi' : Nat) (a b : Option Addr) (cap cap' : Nat) (cs : List (List Int)) (ll : List It) (hA : Lists w lo hi a cs) (hI : Items w lo' hi' b ll) (hv : csB cs ll = true) :
    Calls Try.prog 24 #[.slice a cs.length cap, .slice b ll.length cap'] w (NewInts w (asgL cs ll ll.length)) := by
  have h1 := csB_cen hv
  have h2 := csB_store hv
  have HV := Lib.hid hv
  have hl16 := storeB_len h2
  have hlc := (cenB_len h1).1
  go_enter Try.func24, Try.ntmps24
  go_wp2_with fail
  refine (areVectors_any _ _ _ _ _ _ 4 hA).mono ?_
  rintro e w2 ⟨rfl, rfl⟩
  go_wp2_with fail
  refine (implValidStore _ _ _ _ _ _ hI).mono ?_
  rintro e w2 ⟨rfl, hb2⟩
  replace hA := hA.below hb2
  replace hI := hI.below hb2
  have HB := Lib.hid hb2
  have HE := Lib.hid (owns_empty w2 w2.heap.size 3 1 (Nat.le_refl _))
  clear hb2
  go_wp2_with fail
  clear h1 h2
  go_loopw [5, 19] (fun v i wr => ∃ k : Nat, k ≤ ll.length ∧ i = .int .i64 (k : Int) ∧ Hid (wr.ownsRow w2.heap.size 3 1 v k ((asgL cs ll k).map (Value.int .i64))) ∧ Hid (Below w2.heap.size w2 wr)) (fun _ i _ => ll.length - (intOf i).toNat)
  case atStart => exact ⟨0, Nat.zero_le _, rfl, HE.out, below_alloc _ _⟩
  case round =>
    obtain ⟨k, hk, rfl, HO, HW⟩ := hrel
    by_cases hlt : k < ll.length
    · have hs := hI.below HW.out
      obtain ⟨bb, off, rfl, _, hbh, aj, cj, c0, c1, c2, hx, hcj, hk1, hk2⟩ := hs.at_ hlt
      have VX := Lib.hid (storeB_vec (csB_store HV.out) hlt)
      have HS := Lib.hid (asgL_succ cs ll k)
      have HN := Lib.hid (asg_lt (csB_cen HV.out) ll k)
      have HA : Hid (near cs (ll.getD k It.no).pos = asg cs ll k) := Lib.hid rfl
      obtain ⟨x, ex⟩ : ∃ x, ll.getD k It.no = x := ⟨_, rfl⟩
      rw [ex] at c0 c1 c2 hx hcj hk1 hk2 VX HA
      clear ex hs
      have hb := below_alloc wr (.cells #[.int .i64 x.key, .slice aj x.pos.length cj, .int .i64 x.tags] 39)
      obtain ⟨d0, d1, d2⟩ := cells3_new wr (.int .i64 x.key) (.slice aj x.pos.length cj) (.int .i64 x.tags) 39
      have HR := Lib.hid (rowsOk_of (cenB_vecs (csB_cen HV.out)) VX.out (by omega))
      have C := Lib.hid (implCentreOfIn _ _ _ _ _ _ _ cap cj cs x.pos ((hA.below HW.out).below hb) (hx.below hb) HR.out (vecB_coords VX.out) hlc)
      rw [HA.out] at C
      have HB1 := Lib.hid hb
      have HO1 := Lib.hid (owns_upd HO.out (Upd.of_below (lo := 0) (hi := 0) hb) (by omega))
      clear hb
      go_wp2_with fail
      refine C.out.mono ?_
      rintro e w3 ⟨rfl, hd⟩
      obtain ⟨n, hn⟩ : ∃ n, asg cs ll k = n := ⟨_, rfl⟩
      rw [hn] at HS HN ⊢
      have HNL := Lib.hid (cenB_len (csB_cen HV.out)).2
      have hn4 : n < 4 := by have := HN.out; have := HNL.out; omega
      clear hn
      have HO3 := Lib.hid (owns_upd HO1.out (hd.upd (lo := 0) (hi := 0)) (by omega))
      have HW3 : Hid (Below wr.heap.size wr w3) := Lib.hid (HB1.out.trans hd.below)
      have hs3 := HW3.out.size
      have hsr := HW.out.size
      clear hd c0 c1 c2 d0 d1 d2 C HO HO1
      go_wp2_with (at_builtin; refine append1 rfl _ _ 37 rfl w2.heap.size 3 Try.underlying37 infoInt rfl (by omega) (by omega) _ k ((asgL cs ll k).map (Value.int .i64)) rfl HO3.out [.int .i64 (n : Int)] rfl rfl (ints_cells [(n : Int)]) (by omega) (by omega) ?_; intro v' w6 hown6 hg6; have HO6 := Lib.hid hown6; have HG6 := Lib.hid hg6; clear hown6 hg6)
      go_roundw
      case rel => exact ⟨k + 1, by omega, by go_num, by rw [HS.out, List.map_append]; exact HO6.out, (HW.out.trans (HW3.out.mono HW.out.size)).grown HG6.out (by omega) (owns_block HO3.out)⟩
      case measure => simp [intOf]; omega
    · have hk' : k = ll.length := by omega
      subst hk'
      go_wp2_with fail
      go_ret
      have hb := HB.out
      exact NewInts.mk (asgL_length _ _ _) (owns_low HO.out hb.size) (hb.trans (HW.out.mono hb.size))
end Go.Proofs.Ytfgjmfnbpbanmaa
