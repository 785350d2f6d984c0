/-
  Plain facts on the items of the probed lists.
-/
import Derived.Test.YtmpoljhdcgdnnaaNearPlain
import Derived.Test.YtmpoljhdcgdnnaaClusPlain
namespace Go.Proofs.Ytmpoljhdcgdnnaa
set_option linter.unusedVariables false

/-- the items that the numbers L have -/
def selI (cs : List (List Int)) (L : List Int) (ll : List It) : List It := ll.filter fun x => L.contains (near cs x.pos : Int)
theorem selI_succ (cs : List (List Int)) (L : List Int) {ll : List It} {j : Nat} (hj : j < ll.length) : selI cs L (ll.take (j + 1)) = selI cs L (ll.take j) ++ if L.contains (near cs (ll.getD j It.no).pos : Int) = true then [ll.getD j It.no] else [] := by
  unfold selI
  rw [List.take_succ_eq_append_getElem hj, List.filter_append, List.getD_eq_getElem?_getD, List.getElem?_eq_getElem hj]
  congr 1
  show List.filter (fun x => L.contains (near cs x.pos : Int)) [ll[j]] = if L.contains (near cs ll[j].pos : Int) = true then [ll[j]] else []
  cases h : L.contains (near cs ll[j].pos : Int)
  · rw [List.filter_cons, h]; rfl
  · rw [List.filter_cons, h]; rfl
theorem selI_le (cs : List (List Int)) (L : List Int) (ll : List It) : (selI cs L ll).length ≤ ll.length := List.length_filter_le _ _
theorem selI_mem {cs : List (List Int)} {L : List Int} {ll : List It} {x : It} (h : x ∈ selI cs L ll) : x ∈ ll := (List.mem_filter.1 h).1
theorem getI_mem {ll : List It} {j : Nat} (h : j < ll.length) : ll.getD j It.no ∈ ll := by
  rw [List.getD_eq_getElem?_getD, List.getElem?_eq_getElem h]
  exact List.getElem_mem _
theorem ascI_pw {ll : List It} : AscI ll ↔ ll.Pairwise fun a b => a.key < b.key := by
  rw [List.pairwise_iff_getElem]
  constructor
  · intro h i j hi hj hij
    have := h i j hij hj
    rw [List.getD_eq_getElem?_getD, List.getElem?_eq_getElem hi, List.getD_eq_getElem?_getD, List.getElem?_eq_getElem hj] at this
    exact this
  · intro h i j hij hj
    rw [List.getD_eq_getElem?_getD, List.getElem?_eq_getElem (by omega), List.getD_eq_getElem?_getD, List.getElem?_eq_getElem hj]
    exact h i j (by omega) hj hij
theorem selI_asc {cs : List (List Int)} {L : List Int} {ll : List It} (h : AscI ll) : AscI (selI cs L ll) := ascI_pw.2 (List.Pairwise.filter _ (ascI_pw.1 h))
theorem storeB_mem {ll : List It} (h : storeB ll = true) {x : It} (hx : x ∈ ll) : vecB x.pos 4 = true := by
  obtain ⟨j, hj, rfl⟩ := List.getElem_of_mem hx
  have := storeB_vec h hj
  rw [List.getD_eq_getElem?_getD, List.getElem?_eq_getElem hj] at this
  exact this
theorem selI_vec {cs : List (List Int)} {L : List Int} {ll : List It} (h : storeB ll = true) : ∀ j, j < (selI cs L ll).length → vecB ((selI cs L ll).getD j It.no).pos 4 = true :=
  fun j hj => storeB_mem h (selI_mem (getI_mem hj))
/-- the items of the k nearest centres' lists -/
def prdI (cs : List (List Int)) (m : List Int) (k : Nat) (ll : List It) : List It := selI cs (prbL cs m k) ll
theorem prbL_all {cs : List (List Int)} (h : cenB cs 4 = true) (m : List Int) {j : Nat} (hj : j < cs.length) : (prbL cs m 4).contains (j : Int) = true := by
  have hl4 := (cenB_len h).2
  have hm : (j : Int) ∈ prbL cs m 4 := by
    unfold prbL
    rw [List.take_of_length_le (by rw [srtT_length]; omega)]
    exact List.mem_map.2 ⟨_, srtT_all cs m hj, rfl⟩
  simpa using hm
theorem prdI_all {cs : List (List Int)} (h : cenB cs 4 = true) (m : List Int) (ll : List It) : prdI cs m 4 ll = ll := by
  unfold prdI selI
  rw [List.filter_eq_self]
  exact fun x _ => prbL_all h m (near_lt _ (cenB_len h).1)
theorem prbL_sub {cs : List (List Int)} {m : List Int} {k : Nat} {x : Int} (h : (prbL cs m k).contains x = true) : (prbL cs m (k + 1)).contains x = true := by
  have hm : x ∈ prbL cs m k := by simpa using h
  rw [← prbL_more] at hm
  simpa using List.mem_of_mem_take hm
theorem prdI_sub {cs : List (List Int)} {m : List Int} {k : Nat} {ll : List It} {x : It} (h : x ∈ prdI cs m k ll) : x ∈ prdI cs m (k + 1) ll := by
  obtain ⟨h1, h2⟩ := List.mem_filter.1 h
  exact List.mem_filter.2 ⟨h1, prbL_sub h2⟩
theorem prdI_more (cs : List (List Int)) (m : List Int) (k : Nat) (ll : List It) : (prdI cs m k ll).length ≤ (prdI cs m (k + 1) ll).length := by
  unfold prdI selI
  rw [← List.countP_eq_length_filter, ← List.countP_eq_length_filter]
  exact List.countP_mono_left fun x _ h => prbL_sub h
/-- the first hit is nearest of all -/
theorem nrI_first {kind : Int} {m : List Int} {ll : List It} {k : Nat} (hd : NoDup ll) (hk : 1 ≤ k) (h0 : 0 < ll.length) {x : It} (hx : x ∈ ll) : ((nrI kind m ll k).getD 0 Ht.no).dist ≤ dst kind x.pos m 4 := by
  have hl : 0 < (nrI kind m ll k).length := by rw [nrI_length]; omega
  have hs := srtN_srt (hd.keys kind m)
  have hlen := srtN_length (htsI kind m ll) ll.length
  have e : (nrI kind m ll k).getD 0 Ht.no = (srtN (htsI kind m ll) ll.length).getD 0 Ht.no := by
    unfold nrI nrN
    rw [List.getD_eq_getElem?_getD, List.getD_eq_getElem?_getD, List.getElem?_take_of_lt (by omega)]
  rw [e]
  obtain ⟨j, hj, rfl⟩ := List.getElem_of_mem hx
  have hm : htsI kind m ll j ∈ srtN (htsI kind m ll) ll.length := srtN_mem.2 ⟨j, hj, rfl⟩
  have hdj : (htsI kind m ll j).dist = dst kind ll[j].pos m 4 := by
    unfold htsI htIt
    rw [List.getD_eq_getElem?_getD, List.getElem?_eq_getElem hj]
    rfl
  rw [← hdj]
  obtain ⟨i, hi, he⟩ := List.getElem_of_mem hm
  by_cases hi0 : i = 0
  · subst hi0
    rw [List.getD_eq_getElem?_getD, List.getElem?_eq_getElem hi, he]
    exact Int.le_refl _
  · have := srtH_at hs (show 0 < i by omega) hi
    rw [show (srtN (htsI kind m ll) ll.length).getD i Ht.no = htsI kind m ll j by rw [List.getD_eq_getElem?_getD, List.getElem?_eq_getElem hi, he]; rfl, ltH_iff] at this
    omega
theorem nrI_mem {kind : Int} {m : List Int} {ll : List It} {k j : Nat} (h : j < (nrI kind m ll k).length) : ∃ x, x ∈ ll ∧ (nrI kind m ll k).getD j Ht.no = htIt kind m x := by
  obtain ⟨i, hi, he⟩ := nrN_mem (mem_getD h)
  exact ⟨ll.getD i It.no, getI_mem hi, he⟩
end Go.Proofs.Ytmpoljhdcgdnnaa
