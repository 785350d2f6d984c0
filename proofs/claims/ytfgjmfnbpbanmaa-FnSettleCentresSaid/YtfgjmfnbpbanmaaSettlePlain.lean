/-
  Plain facts on centres that settle, and what SettleCentres returns.
-/
import Derived.Test.YtfgjmfnbpbanmaaMoveTops
namespace Go.Proofs.Ytfgjmfnbpbanmaa
open Go.RowKit
set_option linter.unusedVariables false

/-- the centres after t rounds -/
def itC (cs : List (List Int)) (ll : List It) : Nat → List (List Int)
  | 0 => cs
  | t + 1 => movV (itC cs ll t) ll
theorem itC_succ (cs : List (List Int)) (ll : List It) (t : Nat) : itC cs ll (t + 1) = movV (itC cs ll t) ll := rfl
theorem movV_csB {cs : List (List Int)} {ll : List It} (h : csB cs ll = true) : csB (movV cs ll) ll = true := by
  rw [movV_yes h]; exact csB_mk (movT_cen h) (csB_store h)
theorem movV_len {cs : List (List Int)} {ll : List It} (h : csB cs ll = true) : (movV cs ll).length = cs.length := by rw [movV_yes h, movT_length]
theorem itC_csB {cs : List (List Int)} {ll : List It} (h : csB cs ll = true) (t : Nat) : csB (itC cs ll t) ll = true := by
  induction t with
  | zero => exact h
  | succ t ih => exact movV_csB ih
theorem itC_len {cs : List (List Int)} {ll : List It} (h : csB cs ll = true) (t : Nat) : (itC cs ll t).length = cs.length := by
  induction t with
  | zero => rfl
  | succ t ih => rw [itC_succ, movV_len (itC_csB h t), ih]
theorem itC_shift (cs : List (List Int)) (ll : List It) (t : Nat) : itC (movV cs ll) ll t = itC cs ll (t + 1) := by
  induction t with
  | zero => rfl
  | succ t ih => rw [itC_succ, ih]; rfl
theorem cen_ok {cs : List (List Int)} (h : cenB cs 4 = true) : LOk cs := by
  have h2 := (cenB_len h).2
  refine ⟨by omega, fun j hj => ?_⟩
  have hv := cenB_at h hj
  have hl := vecB_len hv
  exact ⟨by omega, fun x hx => by have := coordsB_ok (vecB_coords hv) x hx; omega⟩
/-- the first round from t on, of f rounds, that changes nothing -/
def setN (cs : List (List Int)) (ll : List It) : Nat → Nat → Nat
  | t, 0 => t
  | t, f + 1 => if itC cs ll t = itC cs ll (t + 1) then t else setN cs ll (t + 1) f
theorem setN_stop {cs : List (List Int)} {ll : List It} {t f : Nat} (h : itC cs ll t = itC cs ll (t + 1)) : setN cs ll t (f + 1) = t := by
  show (if _ then _ else _) = _
  rw [if_pos h]
theorem setN_go {cs : List (List Int)} {ll : List It} {t f : Nat} (h : ¬ itC cs ll t = itC cs ll (t + 1)) : setN cs ll t (f + 1) = setN cs ll (t + 1) f := by
  show (if _ then _ else _) = _
  rw [if_neg h]
theorem setN_bd (cs : List (List Int)) (ll : List It) (f : Nat) : ∀ t, t ≤ setN cs ll t f ∧ setN cs ll t f ≤ t + f := by
  induction f with
  | zero => intro t; exact ⟨Nat.le_refl _, Nat.le_refl _⟩
  | succ f ih =>
    intro t
    by_cases h : itC cs ll t = itC cs ll (t + 1)
    · rw [setN_stop h]; omega
    · rw [setN_go h]; have := ih (t + 1); omega
theorem setN_fix (cs : List (List Int)) (ll : List It) (f : Nat) : ∀ t, setN cs ll t f < t + f → itC cs ll (setN cs ll t f) = itC cs ll (setN cs ll t f + 1) := by
  induction f with
  | zero => intro t h; exact absurd h (Nat.lt_irrefl _)
  | succ f ih =>
    intro t h
    by_cases he : itC cs ll t = itC cs ll (t + 1)
    · rw [setN_stop he]; exact he
    · rw [setN_go he] at h ⊢; exact ih (t + 1) (by omega)
theorem setN_more (cs : List (List Int)) (ll : List It) (f : Nat) : ∀ t, setN cs ll t f < t + f → setN cs ll t (f + 1) = setN cs ll t f := by
  induction f with
  | zero => intro t h; exact absurd h (Nat.lt_irrefl _)
  | succ f ih =>
    intro t h
    by_cases he : itC cs ll t = itC cs ll (t + 1)
    · rw [setN_stop he, setN_stop he]
    · rw [setN_go he] at h ⊢
      rw [setN_go he]
      exact ih (t + 1) (by omega)
theorem setN_shift (cs : List (List Int)) (ll : List It) (f : Nat) : ∀ t, setN (movV cs ll) ll t f + 1 = setN cs ll (t + 1) f := by
  induction f with
  | zero => intro t; rfl
  | succ f ih =>
    intro t
    by_cases he : itC cs ll (t + 1) = itC cs ll (t + 1 + 1)
    · rw [setN_stop he, setN_stop (by rw [itC_shift, itC_shift]; exact he)]
    · rw [setN_go he, setN_go (by rw [itC_shift, itC_shift]; exact he)]
      exact ih (t + 1)
/-- how many rounds -/
def rnd (cs : List (List Int)) (ll : List It) : Nat := setN cs ll 0 8
theorem rnd_le (cs : List (List Int)) (ll : List It) : rnd cs ll ≤ 8 := by have := setN_bd cs ll 8 0; unfold rnd; omega
theorem rnd_fix {cs : List (List Int)} {ll : List It} (h : rnd cs ll < 8) : movV (itC cs ll (rnd cs ll)) ll = itC cs ll (rnd cs ll) := (setN_fix cs ll 8 0 h).symm
theorem rnd_step {cs : List (List Int)} {ll : List It} (h1 : 1 ≤ rnd cs ll) (h8 : rnd cs ll < 8) : rnd (movV cs ll) ll + 1 = rnd cs ll ∧ itC (movV cs ll) ll (rnd (movV cs ll) ll) = itC cs ll (rnd cs ll) := by
  have hs := setN_shift cs ll 8 0
  have hne : ¬ itC cs ll 0 = itC cs ll 1 := fun he => by
    have : rnd cs ll = 0 := setN_stop he
    omega
  have hg : rnd cs ll = setN cs ll 1 7 := setN_go hne
  have hm := setN_more cs ll 7 1 (by rw [← hg]; omega)
  have he : rnd (movV cs ll) ll + 1 = rnd cs ll := by
    rw [hg, ← hm]; exact hs
  exact ⟨he, by rw [itC_shift, he]⟩
/-- what SettleCentres returns: the centres -/
def setL (cs : List (List Int)) (ll : List It) : List (List Int) := if csB cs ll = true then itC cs ll (rnd cs ll) else []
/-- .. and the rounds -/
def setR (cs : List (List Int)) (ll : List It) : Int := if csB cs ll = true then (rnd cs ll : Int) else -1
theorem setL_yes {cs : List (List Int)} {ll : List It} (h : csB cs ll = true) : setL cs ll = itC cs ll (rnd cs ll) := if_pos h
theorem setL_no {cs : List (List Int)} {ll : List It} (h : csB cs ll = false) : setL cs ll = [] := if_neg (by rw [h]; simp)
theorem setR_yes {cs : List (List Int)} {ll : List It} (h : csB cs ll = true) : setR cs ll = (rnd cs ll : Int) := if_pos h
theorem setR_no {cs : List (List Int)} {ll : List It} (h : csB cs ll = false) : setR cs ll = -1 := if_neg (by rw [h]; simp)
theorem setL_ok (cs : List (List Int)) (ll : List It) : LOk (setL cs ll) := by
  cases h : csB cs ll
  · rw [setL_no h]; exact lOk_nil
  · rw [setL_yes h]; exact cen_ok (csB_cen (itC_csB h _))
theorem SSO.wide {w : World} {lo hi lo' hi' : Nat} {a : Option Addr} {ll : List (List Int)} (h : SSO w lo hi a ll) (h1 : lo' ≤ lo) (h2 : hi ≤ hi') : SSO w lo' hi' a ll := by
  obtain ⟨B, bs, A, C, k1, k2, k3, k4⟩ := h
  exact ⟨B, bs, A, C, k1, fun j hj => ⟨(k2 j hj).1, (k2 j hj).2.1, fun hne => by have := (k2 j hj).2.2 hne; omega⟩, k3, fun hne => by have := k4 hne; omega⟩
/-- a slice of slices of the call's own, as its caller marks it -/
def GotSS (w : World) (ll : List (List Int)) (e : Ending) (w' : World) : Prop :=
  ∃ a cap, e = .returned (.slice a ll.length cap) ∧ Cap ll.length cap ∧ SSO w' w.heap.size w'.heap.size a ll ∧ Below w.heap.size w w'
theorem NewLists.sso {w w' : World} {ll : List (List Int)} {e : Ending} (hk : LOk ll) (h : NewLists w ll e w') : GotSS w ll e w' := by
  obtain ⟨a, cap, vs, he, ho, hr, hb⟩ := h
  exact ⟨a, cap, he, owns_cap ho, (sso_of_new ho hr hk).2, hb⟩
/-- what SettleCentres hands over -/
def GotSet (w : World) (ll : List (List Int)) (n : Int) (e : Ending) (w' : World) : Prop :=
  ∃ a cap, e = .returned (.tuple #[.slice a ll.length cap, .int .i64 n]) ∧ Cap ll.length cap ∧ SSO w' w.heap.size w'.heap.size a ll ∧ Below w.heap.size w w'
end Go.Proofs.Ytfgjmfnbpbanmaa
