/-
  The walks of what asks whether a book of codes is valid.
-/
import Derived.Test.YtllahaebfhaobaaBookPlain
import Derived.Test.YtllahaebfhaobaaVecWalks
namespace Go.Proofs.Ytllahaebfhaobaa
open Go.RowKit
set_option linter.unusedVariables false

/-- the slices a, b read as the sides L, R of a book -/
def Sides (w : World) (lo hi : Nat) (a b : Option Addr) (L R : List (List Int)) : Prop := Lists w lo hi a L ∧ Lists w lo hi b R
theorem Sides.upd {w w' : World} {lo hi lo' hi' : Nat} {a b : Option Addr} {L R : List (List Int)} (h : Sides w lo hi a b L R) (u : Upd lo' hi' w w') (hd : hi ≤ lo' ∨ hi' ≤ lo ∨ hi' ≤ lo') : Sides w' lo hi a b L R := ⟨h.1.upd u hd, h.2.upd u hd⟩
theorem Sides.below {w w' : World} {lo hi : Nat} {a b : Option Addr} {L R : List (List Int)} (h : Sides w lo hi a b L R) (u : Below w.heap.size w w') : Sides w' lo hi a b L R := ⟨h.1.below u, h.2.below u⟩
theorem Sides.drawn {w w' : World} {lo hi : Nat} {a b : Option Addr} {L R : List (List Int)} (h : Sides w lo hi a b L R) (u : Drawn w w') : Sides w' lo hi a b L R := ⟨h.1.drawn u, h.2.drawn u⟩
theorem Sides.wide {w : World} {lo hi lo' hi' : Nat} {a b : Option Addr} {L R : List (List Int)} (h : Sides w lo hi a b L R) (h1 : lo' ≤ lo) (h2 : hi ≤ hi') : Sides w lo' hi' a b L R := ⟨h.1.wide h1 h2, h.2.wide h1 h2⟩

set_option maxHeartbeats 1000000 in
theorem isBook_any (w : World) (lo hi : Nat) (a b : Option Addr) (cap cap' : Nat) (L R : List (List Int)) (h : Sides w lo hi a b L R) :
    Calls Try.prog 38 #[.agg #[.slice a L.length cap, .slice b R.length cap']] w fun e w' => e = .returned (.bool (bookB L R)) ∧ Below w.heap.size w w' := by
  obtain ⟨ha, hb⟩ := h
  have la := ha.len
  have lb := hb.len
  by_cases h1 : L.length = 4
  · by_cases h2 : R.length = 4
    · have e1 : ((L.length : Int) != 4) = false := by simp; omega
      have e2 : ((R.length : Int) != 4) = false := by simp; omega
      have H1 := Lib.hid h1
      have H2 := Lib.hid h2
      have hB : Below w.heap.size w (w.alloc (.cells #[.slice a L.length cap, .slice b R.length cap'] 25)) := (Below.refl _ _).alloc (Nat.le_refl _) _
      have ha' := ha.below hB
      have hb' := hb.below hB
      have HB := Lib.hid hB
      clear hB h1 h2
      go_enter Try.func38, Try.ntmps38
      go_wp2
      go_loop [14] (fun i => ∃ k : Nat, k ≤ 4 ∧ i = .int .i64 (k : Int) ∧ Hid (vecsB (L.take k) 2 = true ∧ vecsB (R.take k) 2 = true)) (fun i => 4 - (intOf i).toNat)
      case atStart => exact ⟨0, Nat.zero_le _, rfl, by simp [vecsB], by simp [vecsB]⟩
      case round =>
        obtain ⟨k, hk, rfl, hs⟩ := hrel
        by_cases hlt : k < 4
        · have hkL : k < L.length := by have := H1.out; omega
          have hkR : k < R.length := by have := H2.out; omega
          obtain ⟨p, off, aj, cj, rfl, _, _, hc, hx⟩ := ha'.at_ hkL
          obtain ⟨p', off', aj', cj', rfl, _, _, hc', hx'⟩ := hb'.at_ hkR
          have hy : Hid (vecB (L.getD k []) 2 = true → vecB (R.getD k []) 2 = true → vecsB (L.take (k + 1)) 2 = true ∧ vecsB (R.take (k + 1)) 2 = true) := by
            show _ → _ → _
            intro g1 g2
            rw [vecsB_take_succ L 2 k hkL, vecsB_take_succ R 2 k hkR, hs.out.1, hs.out.2, g1, g2]
            exact ⟨rfl, rfl⟩
          have hn1 := Lib.hid (vecsB_no L 2 k hkL)
          have hn2 := Lib.hid (vecsB_no R 2 k hkR)
          obtain ⟨x, ex⟩ : ∃ x, L.getD k [] = x := ⟨_, rfl⟩
          obtain ⟨y, ey⟩ : ∃ y, R.getD k [] = y := ⟨_, rfl⟩
          rw [ex] at hc hx hy hn1
          rw [ey] at hc' hx' hy hn2
          clear ex ey
          cases hv : vecB x 2
          · have hno := Lib.hid (hn1.out hv)
            go_wp2_with (go_at_call 49; refine (implIsVector _ _ _ _ _ _ 2 hx).mono ?_; rintro e w' ⟨rfl, rfl⟩)
            go_ret
            exact ⟨ret_bool (bookB_no_left hno.out).symm, HB.out⟩
          · cases hv' : vecB y 2
            · have hno := Lib.hid (hn2.out hv')
              go_wp2_with (go_at_call 49; first | ((with_reducible refine (implIsVector _ _ _ _ _ _ 2 hx).mono ?_); rintro e w' ⟨rfl, rfl⟩) | ((with_reducible refine (implIsVector _ _ _ _ _ _ 2 hx').mono ?_); rintro e w' ⟨rfl, rfl⟩))
              go_ret
              exact ⟨ret_bool (bookB_no_right hno.out).symm, HB.out⟩
            · have hy' := Lib.hid (hy.out hv hv')
              go_wp2_with (go_at_call 49; first | ((with_reducible refine (implIsVector _ _ _ _ _ _ 2 hx).mono ?_); rintro e w' ⟨rfl, rfl⟩) | ((with_reducible refine (implIsVector _ _ _ _ _ _ 2 hx').mono ?_); rintro e w' ⟨rfl, rfl⟩))
              go_round
              case rel => exact ⟨k + 1, by omega, by go_num, hy'.out⟩
              case measure => simp [intOf]; omega
        · have he : Hid (bookB L R = true) := by
            have hk4 : k = 4 := by omega
            have q := hs.out
            rw [hk4, List.take_of_length_le (by rw [H1.out]; exact Nat.le_refl _), List.take_of_length_le (by rw [H2.out]; exact Nat.le_refl _)] at q
            exact bookB_mk H1.out H2.out q.1 q.2
          go_wp2
          go_ret
          exact ⟨ret_bool he.out.symm, HB.out⟩
    · have e1 : ((L.length : Int) != 4) = false := by simp; omega
      have e2 : ((R.length : Int) != 4) = true := by simp; omega
      have HN := Lib.hid (bookB_no_len (L := L) (R := R) (by omega))
      clear h1 h2
      go_enter Try.func38, Try.ntmps38
      go_wp2
      go_ret
      exact ⟨ret_bool HN.out.symm, (Below.refl _ _).alloc (Nat.le_refl _) _⟩
  · have e1 : ((L.length : Int) != 4) = true := by simp; omega
    have HN := Lib.hid (bookB_no_len (L := L) (R := R) (by omega))
    clear h1
    go_enter Try.func38, Try.ntmps38
    go_wp2
    go_ret
    exact ⟨ret_bool HN.out.symm, (Below.refl _ _).alloc (Nat.le_refl _) _⟩
set_option maxHeartbeats 1000000 in
theorem validHalves_any (w : World) (lo hi : Nat) (a : Option Addr) (cap : Nat) (ll : List (List Int)) (h : Lists w lo hi a ll) :
    Calls Try.prog 74 #[.slice a ll.length cap] w fun e w' => e = .returned (.bool (vecsB ll 2)) ∧ w = w' := by
  have hl := h.len
  go_enter Try.func74, Try.ntmps74
  go_wp2
  go_loop [3] (fun i => ∃ k : Nat, k ≤ ll.length ∧ i = .int .i64 (k : Int) ∧ Hid (vecsB (ll.take k) 2 = true)) (fun i => ll.length - (intOf i).toNat)
  case atStart => exact ⟨0, Nat.zero_le _, rfl, by show _ = _; simp [vecsB]⟩
  case round =>
    obtain ⟨k, hk, rfl, hs⟩ := hrel
    by_cases hlt : k < ll.length
    · obtain ⟨b, off, aj, cj, rfl, _, _, hc, hi⟩ := h.at_ hlt
      have hy : Hid (vecB (ll.getD k []) 2 = true → vecsB (ll.take (k + 1)) 2 = true) := by
        show _ → _
        intro hb
        rw [vecsB_take_succ ll 2 k hlt, hs.out, hb]
        rfl
      have hn := Lib.hid (vecsB_no ll 2 k hlt)
      obtain ⟨x, hx⟩ : ∃ x, ll.getD k [] = x := ⟨_, rfl⟩
      rw [hx] at hc hi hn hy
      clear hx
      have hu : Hid (vecB x 2 = (coordsB x && ((x.length : Int) == 2))) := by show _ = _; rfl
      by_cases h2 : x.length = 2
      · have h2' : ((x.length : Int) != 2) = false := by simp; omega
        have hu' : Hid (vecB x 2 = coordsB x) := by
          show _ = _
          rw [hu.out, show ((x.length : Int) == 2) = true by simp; omega, Bool.and_true]
        clear h2
        cases hv : coordsB x
        · have hno := Lib.hid (hn.out (hu'.out.trans hv))
          go_wp2_with (go_at_call 93; refine (allIn_any _ _ _ _ _ _ hi).mono ?_; rintro e w' ⟨rfl, rfl⟩)
          go_ret
          exact ⟨ret_bool hno.out.symm, rfl⟩
        · have hyes := Lib.hid (hy.out (hu'.out.trans hv))
          go_wp2_with (go_at_call 93; refine (allIn_any _ _ _ _ _ _ hi).mono ?_; rintro e w' ⟨rfl, rfl⟩)
          go_round
          case rel => exact ⟨k + 1, by omega, by go_num, hyes.out⟩
          case measure => simp [intOf]; omega
      · have h2' : ((x.length : Int) != 2) = true := by simp; omega
        have hno := Lib.hid (hn.out (by rw [hu.out, show ((x.length : Int) == 2) = false by simp; omega, Bool.and_false]))
        clear h2
        go_wp2_with fail
        go_ret
        exact ⟨ret_bool hno.out.symm, rfl⟩
    · have hk' : k = ll.length := by omega
      have he : Hid (vecsB ll 2 = true) := by
        have := hs.out
        rw [hk', List.take_length] at this
        exact this
      clear hk'
      go_wp2
      go_ret
      exact ⟨ret_bool he.out.symm, rfl⟩

set_option maxHeartbeats 1000000 in
theorem validBook_any (w : World) (lo hi : Nat) (a b : Option Addr) (cap cap' : Nat) (L R : List (List Int)) (h : Sides w lo hi a b L R) :
    Calls Try.prog 41 #[.agg #[.slice a L.length cap, .slice b R.length cap']] w fun e w' => e = .returned (.bool (bookB L R)) ∧ Below w.heap.size w w' := by
  have hB : Below w.heap.size w (w.alloc (.cells #[.slice a L.length cap, .slice b R.length cap'] 25)) := (Below.refl _ _).alloc (Nat.le_refl _) _
  obtain ⟨ha, hb⟩ := h.below hB
  have HB := Lib.hid hB
  clear hB
  by_cases h1 : L.length = 4
  · by_cases h2 : R.length = 4
    · have e1 : ((L.length : Int) == 4) = true := by simp; omega
      have e2 : ((R.length : Int) == 4) = true := by simp; omega
      have H1 := Lib.hid h1
      have H2 := Lib.hid h2
      clear h1 h2
      cases v1 : vecsB L 2
      · go_enter Try.func41, Try.ntmps41
        go_wp2_with (go_at_call 74; refine (validHalves_any _ _ _ _ _ _ ha).mono ?_; rintro e w' ⟨rfl, rfl⟩)
        go_ret
        exact ⟨ret_bool (bookB_no_left v1).symm, HB.out⟩
      · cases v2 : vecsB R 2
        · go_enter Try.func41, Try.ntmps41
          go_wp2_with (go_at_call 74; first | ((with_reducible refine (validHalves_any _ _ _ _ _ _ ha).mono ?_); rintro e w' ⟨rfl, rfl⟩) | ((with_reducible refine (validHalves_any _ _ _ _ _ _ hb).mono ?_); rintro e w' ⟨rfl, rfl⟩))
          go_ret
          exact ⟨ret_bool (bookB_no_right v2).symm, HB.out⟩
        · go_enter Try.func41, Try.ntmps41
          go_wp2_with (go_at_call 74; first | ((with_reducible refine (validHalves_any _ _ _ _ _ _ ha).mono ?_); rintro e w' ⟨rfl, rfl⟩) | ((with_reducible refine (validHalves_any _ _ _ _ _ _ hb).mono ?_); rintro e w' ⟨rfl, rfl⟩))
          go_ret
          exact ⟨ret_bool (bookB_mk H1.out H2.out v1 v2).symm, HB.out⟩
    · have e1 : ((L.length : Int) == 4) = true := by simp; omega
      have e2 : ((R.length : Int) == 4) = false := by simp; omega
      have HN := Lib.hid (bookB_no_len (L := L) (R := R) (by omega))
      clear h1 h2
      go_enter Try.func41, Try.ntmps41
      go_wp2_with fail
      go_ret
      exact ⟨ret_bool HN.out.symm, HB.out⟩
  · have e1 : ((L.length : Int) == 4) = false := by simp; omega
    have HN := Lib.hid (bookB_no_len (L := L) (R := R) (by omega))
    clear h1
    go_enter Try.func41, Try.ntmps41
    go_wp2_with fail
    go_ret
    exact ⟨ret_bool HN.out.symm, HB.out⟩

end Go.Proofs.Ytllahaebfhaobaa
