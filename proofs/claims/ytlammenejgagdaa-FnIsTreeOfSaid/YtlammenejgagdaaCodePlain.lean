/-
  Plain facts on the nearest codes, and on ranking again.
-/
import Derived.Test.YtlammenejgagdaaNearPlain
import Derived.Test.YtlammenejgagdaaBookPlain
namespace Go.Proofs.Ytlammenejgagdaa
set_option linter.unusedVariables false

/-- the hit of an item's code -/
def cdIt (L R : List (List Int)) (m : List Int) (x : It) : Ht := ⟨x.key, dst 3 (decL L R (encI L R x.pos)) m 4⟩
def cdsI (L R : List (List Int)) (m : List Int) (ll : List It) (j : Nat) : Ht := cdIt L R m (ll.getD j It.no)
/-- the k items with the nearest codes -/
def cdN (L R : List (List Int)) (m : List Int) (ll : List It) (k : Nat) : List Ht := nrN (cdsI L R m ll) k ll.length
theorem NoDup.keysC {ll : List It} (h : NoDup ll) (L R : List (List Int)) (m : List Int) : KeysN (cdsI L R m ll) ll.length := h
theorem cdN_length (L R : List (List Int)) (m : List Int) (ll : List It) (k : Nat) : (cdN L R m ll k).length = min k ll.length := nrN_length _ _ _
theorem cdN_eq {L R : List (List Int)} {m : List Int} {ll : List It} (h : NoDup ll) (k : Nat) : ((lstN (cdsI L R m ll) ll.length).mergeSort fun x y => !ltH y x).take k = cdN L R m ll k := by
  unfold cdN nrN
  rw [lstN_sort (h.keysC L R m)]
theorem cdN_srt {L R : List (List Int)} {m : List Int} {ll : List It} (h : NoDup ll) (k : Nat) : SrtH (cdN L R m ll k) := nrN_srt (h.keysC L R m) k
/-- the place of a key -/
def plc (ll : List It) (key : Int) : Nat := (ll.findIdx? fun x => x.key == key).getD ll.length
/-- the hits' items -/
def rrI (L R : List (List Int)) (m : List Int) (ll : List It) (n : Nat) : List It := (cdN L R m ll n).map fun h => ll.getD (plc ll h.key) It.no
theorem rrI_length (L R : List (List Int)) (m : List Int) (ll : List It) (n : Nat) : (rrI L R m ll n).length = min n ll.length := by unfold rrI; rw [List.length_map, cdN_length]
theorem plc_at {ll : List It} (h : NoDup ll) {j : Nat} (hj : j < ll.length) : plc ll (ll.getD j It.no).key = j := by
  unfold plc
  have e : ll.findIdx? (fun x => x.key == (ll.getD j It.no).key) = some j := by
    rw [List.findIdx?_eq_some_iff_getElem]
    refine ⟨hj, ?_, fun i hi => ?_⟩
    · rw [List.getD_eq_getElem?_getD, List.getElem?_eq_getElem hj]
      simp
    · have := h i j hi hj
      rw [List.getD_eq_getElem?_getD, List.getElem?_eq_getElem (by omega)] at this
      simpa using this
  rw [e]
  rfl
theorem cdN_mem {L R : List (List Int)} {m : List Int} {ll : List It} {n i : Nat} (h : i < (cdN L R m ll n).length) : ∃ j, j < ll.length ∧ (cdN L R m ll n).getD i Ht.no = cdIt L R m (ll.getD j It.no) := nrN_mem (mem_getD h)
theorem rrI_get {L R : List (List Int)} {m : List Int} {ll : List It} {n i : Nat} (hd : NoDup ll) (h : i < (cdN L R m ll n).length) : ∃ j, j < ll.length ∧ ((cdN L R m ll n).getD i Ht.no).key = (ll.getD j It.no).key ∧ (rrI L R m ll n).getD i It.no = ll.getD j It.no ∧ plc ll ((cdN L R m ll n).getD i Ht.no).key = j := by
  obtain ⟨j, hj, he⟩ := cdN_mem h
  have hk : ((cdN L R m ll n).getD i Ht.no).key = (ll.getD j It.no).key := by rw [he]; rfl
  have hp : plc ll ((cdN L R m ll n).getD i Ht.no).key = j := by rw [hk]; exact plc_at hd hj
  refine ⟨j, hj, hk, ?_, hp⟩
  unfold rrI
  rw [List.getD_eq_getElem?_getD, List.getElem?_map, List.getElem?_eq_getElem h]
  rw [List.getD_eq_getElem?_getD, List.getElem?_eq_getElem h] at hp
  show ll.getD (plc ll ((cdN L R m ll n)[i]).key) It.no = _
  rw [show plc ll ((cdN L R m ll n)[i]).key = j from hp]
theorem rrI_take_succ {L R : List (List Int)} {m : List Int} {ll : List It} {n i : Nat} (h : i < (rrI L R m ll n).length) : (rrI L R m ll n).take (i + 1) = (rrI L R m ll n).take i ++ [(rrI L R m ll n).getD i It.no] := by
  rw [List.take_succ_eq_append_getElem h, List.getD_eq_getElem?_getD, List.getElem?_eq_getElem h]
  rfl
theorem rrI_nodup {L R : List (List Int)} {m : List Int} {ll : List It} {n : Nat} (hd : NoDup ll) : NoDup (rrI L R m ll n) := by
  intro i j hij hj
  have hl : (rrI L R m ll n).length = (cdN L R m ll n).length := by unfold rrI; rw [List.length_map]
  obtain ⟨a, ha, ka, ea, pa⟩ := rrI_get hd (show i < (cdN L R m ll n).length by omega)
  obtain ⟨b, hb, kb, eb, pb⟩ := rrI_get hd (show j < (cdN L R m ll n).length by omega)
  rw [ea, eb]
  intro e
  have hs := srtH_at (cdN_srt (L := L) (R := R) (m := m) hd n) hij (by omega)
  obtain ⟨a', ha', ea'⟩ := cdN_mem (L := L) (R := R) (m := m) (ll := ll) (n := n) (show i < (cdN L R m ll n).length by omega)
  obtain ⟨b', hb', eb'⟩ := cdN_mem (L := L) (R := R) (m := m) (ll := ll) (n := n) (show j < (cdN L R m ll n).length by omega)
  have h1 : (ll.getD a' It.no).key = (ll.getD a It.no).key := by rw [← ka, ea']; rfl
  have h2 : (ll.getD b' It.no).key = (ll.getD b It.no).key := by rw [← kb, eb']; rfl
  have h3 : a' = b' := by
    rcases Nat.lt_trichotomy a' b' with q | q | q
    · exact absurd (by rw [h1, h2, e]) (hd a' b' q hb')
    · exact q
    · exact absurd (by rw [h1, h2, e]) (hd b' a' q ha')
  rw [ea', eb', h3, ltH_iff] at hs
  omega
theorem rrI_vec {L R : List (List Int)} {m : List Int} {ll : List It} {n : Nat} (hs : storeB ll = true) : ∀ j, j < (rrI L R m ll n).length → vecB ((rrI L R m ll n).getD j It.no).pos 4 = true := fun j hj => by
  have hl : (rrI L R m ll n).length = (cdN L R m ll n).length := by unfold rrI; rw [List.length_map]
  obtain ⟨a, ha, _, ea, _⟩ := rrI_get (storeB_AscI hs).nodup (show j < (cdN L R m ll n).length by omega)
  rw [ea]
  exact storeB_vec hs ha
/-- all of them, ranked again: as they are nearest -/
theorem rrI_all {L R : List (List Int)} {m : List Int} {ll : List It} {n : Nat} (hd : NoDup ll) (hn : ll.length ≤ n) (k : Nat) : nrI 3 m (rrI L R m ll n) k = nrI 3 m ll k := by
  have hl : (rrI L R m ll n).length = (cdN L R m ll n).length := by unfold rrI; rw [List.length_map]
  have hcl : (cdN L R m ll n).length = ll.length := by rw [cdN_length]; omega
  unfold nrI nrN
  rw [srtH_ext (srtN_srt ((rrI_nodup (L := L) (R := R) (m := m) (n := n) hd).keys 3 m)) (srtN_srt (hd.keys 3 m)) fun x => ?_]
  rw [srtN_mem, srtN_mem]
  constructor
  · rintro ⟨j, hj, rfl⟩
    obtain ⟨a, ha, _, ea, _⟩ := rrI_get hd (show j < (cdN L R m ll n).length by omega)
    exact ⟨a, ha, by unfold htsI; rw [ea]⟩
  · rintro ⟨a, ha, rfl⟩
    have hm : cdsI L R m ll a ∈ cdN L R m ll n := by
      unfold cdN nrN
      rw [List.take_of_length_le (by rw [srtN_length]; exact hn)]
      exact srtN_mem.2 ⟨a, ha, rfl⟩
    obtain ⟨i, hi, he⟩ := List.getElem_of_mem hm
    obtain ⟨b, hb, kb, eb, pb⟩ := rrI_get hd hi
    have hk : ((cdN L R m ll n).getD i Ht.no).key = (ll.getD a It.no).key := by
      rw [List.getD_eq_getElem?_getD, List.getElem?_eq_getElem hi, he]; rfl
    have : a = b := by rw [← pb, hk, plc_at hd ha]
    subst this
    exact ⟨i, by omega, by unfold htsI; rw [eb]⟩
end Go.Proofs.Ytlammenejgagdaa
