/-
  Plain facts on stores of coded vectors.
-/
import Derived.Test.YtllahaebfhaobaaRerankWalks
namespace Go.Proofs.Ytllahaebfhaobaa
set_option linter.unusedVariables false

theorem news3_new (w : World) (x y z : Value) (t : TypeId) : ∀ j u, [x, y, z][j]? = some u → (w.alloc (.cells #[x, y, z] t)).cell? ((⟨w.heap.size, 0, none⟩ : Addr).add j) = some u := fun j u hj => by
  rw [add_none, Nat.zero_add, cell_new]
  simpa using hj
/-- an item's code in its place -/
def cod (L R : List (List Int)) (x : It) : It := ⟨x.key, decL L R (encI L R x.pos), 0⟩
/-- .. of all items -/
def codI (L R : List (List Int)) (ll : List It) : List It := ll.map (cod L R)
theorem codI_length (L R : List (List Int)) (ll : List It) : (codI L R ll).length = ll.length := by unfold codI; simp
theorem codI_get {L R : List (List Int)} {ll : List It} {j : Nat} (hj : j < ll.length) : (codI L R ll).getD j It.no = cod L R (ll.getD j It.no) := by
  unfold codI
  rw [List.getD_eq_getElem?_getD, List.getElem?_map, List.getElem?_eq_getElem hj, List.getD_eq_getElem?_getD, List.getElem?_eq_getElem hj]
  rfl
theorem codI_take {L R : List (List Int)} {ll : List It} {j : Nat} (hj : j < ll.length) : (codI L R ll).take (j + 1) = (codI L R ll).take j ++ [cod L R (ll.getD j It.no)] := by
  rw [List.take_succ_eq_append_getElem (by rw [codI_length]; exact hj)]
  congr 2
  rw [← codI_get hj, List.getD_eq_getElem?_getD, List.getElem?_eq_getElem (by rw [codI_length]; exact hj)]
  rfl
theorem codI_store {L R : List (List Int)} {ll : List It} (hv : bookB L R = true) (hs : storeB ll = true) : storeB (codI L R ll) = true := by
  refine storeB_mk ?_ (by rw [codI_length]; exact storeB_len hs)
  unfold goodTo
  rw [List.all_eq_true]
  intro k hk
  rw [List.mem_range, codI_length] at hk
  have hi : itemB ((codI L R ll).getD k It.no) = true := by
    rw [codI_get hk]
    have hkk := itemB_key (storeB_at hs hk)
    have h0 : (cod L R (ll.getD k It.no)).tags = 0 := rfl
    exact itemB_mk (show 1 ≤ (ll.getD k It.no).key ∧ (ll.getD k It.no).key ≤ 99 from hkk) (decL_vec hv (encI_bd hv _).2.2) (by rw [h0]; omega)
  by_cases h0 : k = 0
  · subst h0; exact goodAt_first hi
  · refine goodAt_mk hi ?_
    rw [codI_get hk, codI_get (by omega)]
    exact storeB_asc hs k hk (k - 1) (by omega)
theorem srtN_congr {f g : Nat → Ht} : ∀ {n : Nat}, (∀ j, j < n → f j = g j) → srtN f n = srtN g n := by
  intro n
  induction n with
  | zero => intro _; rfl
  | succ n ih =>
    intro h
    show insH (f n) (srtN f n) = insH (g n) (srtN g n)
    rw [h n (Nat.lt_succ_self n), ih fun j hj => h j (by omega)]
theorem codI_near (L R : List (List Int)) (m : List Int) (ll : List It) (k : Nat) : nrI 3 m (codI L R ll) k = cdN L R m ll k := by
  unfold nrI cdN nrN
  rw [codI_length, srtN_congr fun j hj => ?_]
  unfold htsI cdsI
  rw [codI_get hj]
  rfl
theorem cnV_store {L R : List (List Int)} {ll : List It} {m : List Int} {k : Int} (h : cnB L R ll m k = true) : nrV 3 m (codI L R ll) k = cnV L R ll m k := by
  have hf := cnB_find h
  have hq := findB_qry hf
  have hf2 : findB (codI L R ll) 3 m k = true := findB_mk (by
    unfold qryB kndB
    rw [codI_store (cnB_book h) (qryB_store hq), inR_true (qryB_kind hq), qryB_vec hq]
    rfl) (findB_num hf)
  rw [nrV_yes hf2, cnV_yes h, codI_near]
theorem cnV_ne {L R : List (List Int)} {ll : List It} {m : List Int} {k : Int} (h : (cnV L R ll m k).length ≠ 0) : cnB L R ll m k = true := by
  cases hc : cnB L R ll m k
  · rw [cnV_no hc] at h; exact absurd rfl h
  · rfl
theorem rkV_ne {L R : List (List Int)} {ll : List It} {m : List Int} {n k : Int} (h : (rkV L R ll m n k).length ≠ 0) : rkB L R ll m n k = true := by
  cases hc : rkB L R ll m n k
  · rw [rkV_no hc] at h; exact absurd rfl h
  · rfl
/-- what the law asks of a RerankNearest that is not empty -/
def RkLaw (L R : List (List Int)) (ll : List It) (m : List Int) (n k : Int) (V : List Ht) : Prop :=
  (∀ i, i < V.length → ∃ j, j < ll.length ∧ V.getD i Ht.no = ⟨(ll.getD j It.no).key, dst 3 (ll.getD j It.no).pos m 4⟩) ∧
  rkV L R ll m 16 k = nrV 3 m ll k ∧ (V.length : Int) = min (min n k) (ll.length : Int)
theorem rkV_law {L R : List (List Int)} {ll : List It} {m : List Int} {n k : Int} (h : rkB L R ll m n k = true) : RkLaw L R ll m n k (rkV L R ll m n k) := by
  have hc := rkB_cn h
  have hn := rkB_num h
  have hf := cnB_find hc
  have hk := findB_num hf
  have hs := qryB_store (findB_qry hf)
  have hd := (storeB_AscI hs).nodup
  have hl16 := storeB_len hs
  rw [rkV_yes h]
  refine ⟨fun i hi => ?_, ?_, ?_⟩
  · obtain ⟨a, ha, he⟩ := nrN_mem (mem_getD hi)
    have hl : (rrI L R m ll n.toNat).length = (cdN L R m ll n.toNat).length := by unfold rrI; rw [List.length_map]
    obtain ⟨j, hj, _, hr, _⟩ := rrI_get (L := L) (R := R) (m := m) (n := n.toNat) hd (show a < (cdN L R m ll n.toNat).length by omega)
    exact ⟨j, hj, by rw [show (nrI 3 m (rrI L R m ll n.toNat) k.toNat).getD i Ht.no = htsI 3 m (rrI L R m ll n.toNat) a from he]; unfold htsI; rw [hr]; rfl⟩
  · have h16 : rkB L R ll m 16 k = true := rkB_mk hc (by omega)
    rw [rkV_yes h16, nrV_yes hf, show (16 : Int).toNat = 16 from rfl, rrI_all hd hl16]
  · rw [nrI_length, rrI_length]
    omega
end Go.Proofs.Ytllahaebfhaobaa
