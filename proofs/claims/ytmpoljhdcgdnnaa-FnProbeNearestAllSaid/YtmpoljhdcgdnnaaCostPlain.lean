/-
  Plain facts on what searches cost, and on searches with more probes.
-/
import Derived.Test.YtmpoljhdcgdnnaaCostWalks
import Derived.Test.YtmpoljhdcgdnnaaListsPlain
namespace Go.Proofs.Ytmpoljhdcgdnnaa
set_option linter.unusedVariables false

theorem prbL_ne {cs : List (List Int)} {m : List Int} {k i j : Nat} (hij : i < j) (hj : j < (prbL cs m k).length) : (prbL cs m k).getD i 0 ≠ (prbL cs m k).getD j 0 := by
  obtain ⟨a, _, ha1, ha2⟩ := prbL_get (i := i) (by omega : i < (prbL cs m k).length)
  obtain ⟨b, _, hb1, hb2⟩ := prbL_get hj
  have hl : j < ((srtT cs m cs.length).take k).length := by unfold prbL at hj; rw [List.length_map] at hj; exact hj
  have hs := srtH_at (srtH_take (srtT_srt cs m cs.length) k) hij hl
  rw [ha2, hb2, ltH_iff] at hs
  rw [ha1, hb1]
  intro e
  have e' : a = b := by omega
  subst e'
  dsimp only at hs
  omega
/-- how many items have the centre c -/
def cntC (cs : List (List Int)) (c : Nat) (ll : List It) : Nat := ll.countP fun x => near cs x.pos == c
theorem ownK_count (cs : List (List Int)) (ll : List It) (c : Nat) : ∀ k, k ≤ ll.length → (ownK cs ll c k).length = cntC cs c (ll.take k) := by
  intro k
  induction k with
  | zero => intro _; rfl
  | succ k ih =>
    intro hk
    have e := ih (by omega)
    have hg : ll.getD k It.no = ll[k] := by rw [List.getD_eq_getElem?_getD, List.getElem?_eq_getElem (by omega)]; rfl
    unfold cntC at e ⊢
    rw [List.take_succ_eq_append_getElem (by omega), List.countP_append, ← e, List.countP_singleton]
    by_cases h : asg cs ll k = c
    · rw [ownK_yes h]
      have h' : (near cs ll[k].pos == c) = true := by rw [beq_iff_eq, ← hg]; exact h
      rw [h']
      simp
    · rw [ownK_not h]
      have h' : (near cs ll[k].pos == c) = false := by rw [beq_eq_false_iff_ne, ← hg]; exact h
      rw [h']
      simp
theorem selI_count (cs : List (List Int)) (L : List Int) (x : Int) (c : Nat) (hx : x = (c : Int)) (hn : x ∉ L) (ll : List It) : (selI cs (L ++ [x]) ll).length = (selI cs L ll).length + cntC cs c ll := by
  unfold selI cntC
  induction ll with
  | nil => rfl
  | cons y ll ih =>
    rw [List.filter_cons, List.filter_cons, List.countP_cons]
    by_cases h1 : (near cs y.pos : Int) ∈ L
    · have a1 : (L ++ [x]).contains (near cs y.pos : Int) = true := by simp [h1]
      have a2 : L.contains (near cs y.pos : Int) = true := by simp [h1]
      have a3 : (near cs y.pos == c) = false := by
        rw [beq_eq_false_iff_ne]
        rintro rfl
        exact hn (hx ▸ h1)
      rw [a1, a2, a3]
      simp only [if_true, List.length_cons, ih]
      simp
      omega
    · have a2 : L.contains (near cs y.pos : Int) = false := by simp [h1]
      by_cases h2 : near cs y.pos = c
      · have a1 : (L ++ [x]).contains (near cs y.pos : Int) = true := by simp [h2, hx]
        have a3 : (near cs y.pos == c) = true := by rw [beq_iff_eq]; exact h2
        rw [a1, a2, a3]
        simp only [if_true, List.length_cons, ih]
        simp
        omega
      · have a1 : (L ++ [x]).contains (near cs y.pos : Int) = false := by
          simp [h1, hx]
          omega
        have a3 : (near cs y.pos == c) = false := by rw [beq_eq_false_iff_ne]; exact h2
        rw [a1, a2, a3]
        exact ih
/-- the sum of the lengths of the first i probed lists -/
theorem cost_step {cs : List (List Int)} {m : List Int} {k i c : Nat} {ll : List It} (hi : i < (prbL cs m k).length) (hc : (prbL cs m k).getD i 0 = (c : Int)) :
    (selI cs ((prbL cs m k).take (i + 1)) ll).length = (selI cs ((prbL cs m k).take i) ll).length + (ownK cs ll c ll.length).length := by
  have e : (prbL cs m k)[i] = (c : Int) := by
    rw [List.getD_eq_getElem?_getD, List.getElem?_eq_getElem hi] at hc
    exact hc
  rw [List.take_succ_eq_append_getElem hi, e, selI_count cs _ _ c rfl, ownK_count cs ll c _ (Nat.le_refl _), List.take_length]
  intro hm
  obtain ⟨q, hq, he⟩ := List.getElem_of_mem hm
  have hq' : q < i := by rw [List.length_take] at hq; omega
  have := prbL_ne hq' hi
  rw [hc] at this
  refine this ?_
  rw [List.getElem_take] at he
  rw [List.getD_eq_getElem?_getD, List.getElem?_eq_getElem (by omega), he]
  rfl
theorem selI_nil (cs : List (List Int)) (ll : List It) : selI cs [] ll = [] := by unfold selI; simp
theorem costV_more {cs : List (List Int)} {ll : List It} {m : List Int} {k : Int} (h : costB cs ll m k = true) (h4 : k ≠ 4) :
    costV cs ll m k ≤ costV cs ll m (k + 1) ∧ costV cs ll m 4 = (cs.length : Int) + (ll.length : Int) := by
  have hk := costB_num h
  have h1 := costB_cen h
  have h2 := costB_qry h
  rw [costV_yes h, costV_yes (costB_mk h1 (by omega) h2), costV_yes (n := 4) (costB_mk h1 (by omega) h2), show (k + 1).toNat = k.toNat + 1 by omega]
  have := prdI_more cs m k.toNat ll
  refine ⟨by omega, ?_⟩
  rw [show (4 : Int).toNat = 4 from rfl, prdI_all h1]
theorem pnV_more {cs : List (List Int)} {ll : List It} {m : List Int} {n k : Int} (h : (pnV cs ll m n k).length ≠ 0) (h4 : n ≠ 4) :
    (pnV cs ll m n k).length ≤ (pnV cs ll m (n + 1) k).length ∧ ((pnV cs ll m (n + 1) k).getD 0 Ht.no).dist ≤ ((pnV cs ll m n k).getD 0 Ht.no).dist := by
  cases hp : pnB cs ll m n k
  · rw [pnV_no hp] at h; exact absurd rfl h
  · have hc := pnB_cost hp
    have hk := pnB_num hp
    have hn := costB_num hc
    have h1 := costB_cen hc
    have h2 := costB_qry hc
    have hp2 : pnB cs ll m (n + 1) k = true := pnB_mk (costB_mk h1 (by omega) h2) hk
    rw [pnV_yes hp] at h ⊢
    rw [pnV_yes hp2, show (n + 1).toNat = n.toNat + 1 by omega]
    have hmore := prdI_more cs m n.toNat ll
    have hasc := storeB_AscI (qryB_store h2)
    have hl : 0 < (nrI 3 m (prdI cs m n.toNat ll) k.toNat).length := by omega
    refine ⟨by rw [nrI_length, nrI_length]; omega, ?_⟩
    obtain ⟨x, hx, he⟩ := nrI_mem hl
    rw [he]
    have hl2 := hl
    rw [nrI_length] at hl2
    have h0 : 0 < (prdI cs m (n.toNat + 1) ll).length := by omega
    exact nrI_first (selI_asc hasc).nodup (by omega) h0 (prdI_sub hx)
theorem pnV_all {cs : List (List Int)} {ll : List It} {m : List Int} {k : Int} (h : cenB cs 4 = true) : pnV cs ll m 4 k = nrV 3 m ll k := by
  cases hf : findB ll 3 m k
  · rw [nrV_no hf]
    cases hp : pnB cs ll m 4 k
    · rw [pnV_no hp]
    · rw [findB_mk (costB_qry (pnB_cost hp)) (pnB_num hp)] at hf; cases hf
  · have hp : pnB cs ll m 4 k = true := pnB_mk (costB_mk h (by omega) (findB_qry hf)) (findB_num hf)
    rw [nrV_yes hf, pnV_yes hp, show (4 : Int).toNat = 4 from rfl, prdI_all h]
end Go.Proofs.Ytmpoljhdcgdnnaa
