/-
  The walks of what asks whether a list of lists holds vectors: the program's areVectors, by way of the library's ContainsFunc and IndexFunc, and the reference's loops.
-/
import Derived.Test.YtmpoljhdcgdnnaaLists
import Derived.Test.YtmpoljhdcgdnnaaVecWalks
namespace Go.Proofs.Ytmpoljhdcgdnnaa
open Go.RowKit
set_option linter.unusedVariables false

set_option maxHeartbeats 400000 in
theorem areVectorsLit (w : World) (lo hi : Nat) (a : Option Addr) (cap : Nat) (l : List Int) (h : Ints w lo hi a l) :
    Calls Try.prog 81 #[.slice a l.length cap] w fun e w' => e = .returned (.bool (!vecB l 4)) ∧ w = w' := by
  go_enter Try.func81, Try.ntmps81
  go_wp2_with (go_at_call 66; refine (implIsVector _ _ _ _ _ _ _ h).mono ?_; rintro e w' ⟨rfl, rfl⟩)
  go_ret
  exact ⟨rfl, rfl⟩

def NoVecPost (w : World) (ll : List (List Int)) (e : Ending) (w' : World) : Prop :=
  ∃ i : Int, e = .returned (.int .i64 i) ∧ (if vecsB ll 4 then i = -1 else 0 ≤ i) ∧ w = w'

set_option maxHeartbeats 400000 in
theorem indexNoVec (w : World) (lo hi : Nat) (a : Option Addr) (cap : Nat) (ll : List (List Int)) (h : Lists w lo hi a ll) :
    Calls Try.prog 98 #[.slice a ll.length cap, .func (.func 81) #[] #[]] w (NoVecPost w ll) := by
  have hl := h.len
  go_enter Try.func98, Try.ntmps98
  go_wp2
  go_loop [8] (fun i => ∃ k : Nat, k ≤ ll.length ∧ i = .int .i64 (k : Int) ∧ Hid (vecsB (ll.take k) 4 = true)) (fun i => ll.length - (intOf i).toNat)
  case atStart => exact ⟨0, Nat.zero_le _, rfl, by show _ = _; simp [vecsB]⟩
  case round =>
    obtain ⟨k, hk, rfl, hs⟩ := hrel
    by_cases hlt : k < ll.length
    · obtain ⟨b, off, aj, cj, rfl, _, _, hc, hi⟩ := h.at_ hlt
      have hy : Hid (vecB (ll.getD k []) 4 = true → vecsB (ll.take (k + 1)) 4 = true) := by
        show _ → _
        intro hb
        rw [vecsB_take_succ ll 4 k hlt, hs.out, hb]
        rfl
      have hn := Lib.hid (vecsB_no ll 4 k hlt)
      obtain ⟨x, hx⟩ : ∃ x, ll.getD k [] = x := ⟨_, rfl⟩
      rw [hx] at hc hi hn hy
      clear hx
      cases hv : vecB x 4
      · go_wp2_with (go_at_call 81; refine (areVectorsLit _ _ _ _ _ _ hi).mono ?_; rintro e w' ⟨rfl, rfl⟩)
        go_ret
        exact ⟨k, rfl, by rw [hn.out hv]; simp, rfl⟩
      · go_wp2_with (go_at_call 81; refine (areVectorsLit _ _ _ _ _ _ hi).mono ?_; rintro e w' ⟨rfl, rfl⟩)
        go_round
        case rel => exact ⟨k + 1, by omega, by go_num, hy.out hv⟩
        case measure => simp [intOf]; omega
    · have hk' : k = ll.length := by omega
      have he : Hid (vecsB ll 4 = true) := by
        have := hs.out
        rw [hk', List.take_length] at this
        exact this
      clear hk'
      go_wp2
      go_ret
      exact ⟨-1, rfl, by rw [he.out]; rfl, rfl⟩

set_option maxHeartbeats 400000 in
theorem containsNoVec (w : World) (lo hi : Nat) (a : Option Addr) (cap : Nat) (ll : List (List Int)) (h : Lists w lo hi a ll) :
    Calls Try.prog 80 #[.slice a ll.length cap, .func (.func 81) #[] #[]] w fun e w' => e = .returned (.bool (!vecsB ll 4)) ∧ w = w' := by
  go_enter Try.func80, Try.ntmps80
  go_wp2_with fail
  refine (indexNoVec _ _ _ _ _ _ h).mono ?_
  rintro e w' ⟨i, rfl, hi, rfl⟩
  cases hv : vecsB ll 4
  · rw [hv] at hi
    have h0 : 0 ≤ i := by simpa using hi
    clear hi
    go_wp2_with fail
    go_ret
    exact ⟨ret_bool (by rw [hv]; rfl), rfl⟩
  · rw [hv] at hi
    have h0 : i = -1 := by simpa using hi
    subst h0
    go_wp2_with fail
    go_ret
    exact ⟨ret_bool (by rw [hv]; rfl), rfl⟩

set_option maxHeartbeats 400000 in
theorem areVectors_any (w : World) (lo hi : Nat) (a : Option Addr) (cap : Nat) (ll : List (List Int)) (most : Int) (h : Lists w lo hi a ll) :
    Calls Try.prog 49 #[.slice a ll.length cap, .int .i64 most] w fun e w' => e = .returned (.bool (cenB ll most)) ∧ w = w' := by
  have hl := h.len
  by_cases h1 : 1 ≤ ll.length
  · by_cases h2 : (ll.length : Int) ≤ most
    · have hy : Hid (cenB ll most = vecsB ll 4) := by
        show _ = _
        unfold cenB
        rw [decide_eq_true (show 1 ≤ (ll.length : Int) by omega), decide_eq_true h2]
        simp
      go_enter Try.func49, Try.ntmps49
      go_wp2_with fail
      refine (containsNoVec _ _ _ _ _ _ h).mono ?_
      rintro e w' ⟨rfl, rfl⟩
      go_wp2_with fail
      go_ret
      exact ⟨ret_bool (by rw [hy.out]), rfl⟩
    · go_enter Try.func49, Try.ntmps49
      go_wp2
      go_ret
      exact ⟨ret_bool (cenB_no_len (by omega)).symm, rfl⟩
  · go_enter Try.func49, Try.ntmps49
    go_wp2
    go_ret
    exact ⟨ret_bool (cenB_no_len (by omega)).symm, rfl⟩

set_option maxHeartbeats 400000 in
theorem validCentres_any (w : World) (lo hi : Nat) (a : Option Addr) (cap : Nat) (ll : List (List Int)) (h : Lists w lo hi a ll) :
    Calls Try.prog 53 #[.slice a ll.length cap] w fun e w' => e = .returned (.bool (cenB ll 4)) ∧ w = w' := by
  have hl := h.len
  go_enter Try.func53, Try.ntmps53
  go_wp2
  go_loop [3] (fun i => ∃ k : Nat, k ≤ ll.length ∧ i = .int .i64 (k : Int) ∧ Hid (vecsB (ll.take k) 4 = true)) (fun i => ll.length - (intOf i).toNat)
  case atStart => exact ⟨0, Nat.zero_le _, rfl, by show _ = _; simp [vecsB]⟩
  case round =>
    obtain ⟨k, hk, rfl, hs⟩ := hrel
    by_cases hlt : k < ll.length
    · obtain ⟨b, off, aj, cj, rfl, _, _, hc, hi⟩ := h.at_ hlt
      have hy : Hid (vecB (ll.getD k []) 4 = true → vecsB (ll.take (k + 1)) 4 = true) := by
        show _ → _
        intro hb
        rw [vecsB_take_succ ll 4 k hlt, hs.out, hb]
        rfl
      have hn := Lib.hid (vecsB_no ll 4 k hlt)
      obtain ⟨x, hx⟩ : ∃ x, ll.getD k [] = x := ⟨_, rfl⟩
      rw [hx] at hc hi hn hy
      clear hx
      cases hv : vecB x 4
      · go_wp2_with (go_at_call 65; refine (specIsVector _ _ _ _ _ _ hi).mono ?_; rintro e w' ⟨rfl, rfl⟩)
        go_ret
        exact ⟨ret_bool (cenB_no_vecs (hn.out hv)).symm, rfl⟩
      · go_wp2_with (go_at_call 65; refine (specIsVector _ _ _ _ _ _ hi).mono ?_; rintro e w' ⟨rfl, rfl⟩)
        go_round
        case rel => exact ⟨k + 1, by omega, by go_num, hy.out hv⟩
        case measure => simp [intOf]; omega
    · have hk' : k = ll.length := by omega
      have he : Hid (cenB ll 4 = inR ll.length 1 4) := by
        have := hs.out
        rw [hk', List.take_length] at this
        show _ = _
        unfold cenB inR
        rw [this]
        simp
      clear hk'
      go_wp2_with (go_at_call 55; refine (inRange_any _ _ _ _).mono ?_; rintro e w' ⟨rfl, rfl⟩)
      go_ret
      exact ⟨ret_bool he.out.symm, rfl⟩
end Go.Proofs.Ytmpoljhdcgdnnaa
