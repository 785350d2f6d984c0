/-
  Drawn numbers, vectors and lists of vectors. Of what is drawn it is said only how it lies in memory and how long it is: the laws hold whatever it is.
-/
import Derived.Test.YtlammenejgagdaaReader
import Derived.Test.YtlammenejgagdaaOwn
import Derived.Test.YtlammenejgagdaaVecPlain
namespace Go.Proofs.Ytlammenejgagdaa
open Go.RowKit
set_option linter.unusedVariables false

def OnePost (w : World) (B c : Nat) (l : List Int) (e : Ending) (w' : World) : Prop :=
  ∃ x : Int, e = .returned (.int .i64 x) ∧ x ∈ l ∧ Reader w' B (c + 1) ∧ Upd B (B + 1) w w' ∧ w'.heap.size = w.heap.size

set_option maxHeartbeats 400000 in
theorem one_any (w : World) (B c lo hi : Nat) (a : Option Addr) (cap : Nat) (l : List Int) (hr : Reader w B c) (hc : c ≤ 1099511627776) (hl : Ints w lo hi a l) (hne : 1 ≤ l.length) (hd : B < lo) :
    Calls Try.prog 70 #[.pointer (some ⟨B, 0, none⟩), .slice a l.length cap] w (OnePost w B c l) := by
  have hlen := hl.len
  go_enter Try.func70, Try.ntmps70
  go_wp2_with fail
  refine (pick_any _ _ _ _ hr hc (by omega) (by omega)).mono ?_
  rintro e w1 ⟨m, rfl, m0, m1, hr1, hu, hs⟩
  have hk : ∃ k : Nat, m = (k : Int) ∧ k < l.length := ⟨m.toNat, by omega, by omega⟩
  obtain ⟨k, rfl, hk⟩ := hk
  obtain ⟨b, off, rfl, _, _, hcell, _⟩ := (hl.upd hu (by omega)).at_ hk
  have hm := getD_mem 0 hk
  obtain ⟨x, hx⟩ : ∃ x, l.getD k 0 = x := ⟨_, rfl⟩
  rw [hx] at hm hcell
  have HM := Lib.hid hm
  clear hx m0 m1 hm
  go_wp2_with fail
  go_ret
  exact ⟨x, rfl, HM.out, hr1, hu, hs⟩

def CoordPost (w : World) (B c : Nat) (e : Ending) (w' : World) : Prop :=
  ∃ x : Int, e = .returned (.int .i64 x) ∧ (-100 ≤ x ∧ x ≤ 100) ∧ Reader w' B (c + 3) ∧ Upd B (B + 1) w w'

set_option maxHeartbeats 400000 in
theorem someCoord_any (w : World) (B c : Nat) (hr : Reader w B c) (hc : c ≤ 1099511627770) :
    Calls Try.prog 97 #[.pointer (some ⟨B, 0, none⟩)] w (CoordPost w B c) := by
  have hB := hr.lt
  go_enter Try.func97, Try.ntmps97
  go_wp2_with fail
  refine (pick_any _ _ _ _ hr (by omega) (by omega) (by omega)).mono ?_
  rintro e w1 ⟨p, rfl, p0, p1, hr1, hu1, hs1⟩
  go_wp2_with fail
  refine (pick_any _ _ _ _ hr1 (by omega) (by omega) (by omega)).mono ?_
  rintro e w2 ⟨q, rfl, q0, q1, hr2, hu2, hs2⟩
  have hall : ∀ x ∈ [0, 1, -1, 5, -7, 10, 3, 100, -100, p - 100, q - 10], -100 ≤ x ∧ x ≤ 100 := by
    intro x hx
    simp only [List.mem_cons, List.not_mem_nil, or_false] at hx
    omega
  have HU := Lib.hid (hu1.trans hu2)
  have HS := Lib.hid (show B < w2.heap.size by omega)
  have HALL := Lib.hid hall
  clear hall hs1 hs2 hu1 hu2
  go_wp2_with fail
  refine (one_any _ B (c + 1 + 1) _ _ _ _ [0, 1, -1, 5, -7, 10, 3, 100, -100, p - 100, q - 10] (hr2.keep ((Below.refl _ _).alloc HS.out _)) (by omega) (ints_lit w2 _ _ (fun x hx => by have := HALL.out x hx; omega) (by simp)) (by simp) HS.out).mono ?_
  rintro e w3 ⟨x, rfl, hx, hr3, hu3, hs3⟩
  have hx' := HALL.out x hx
  clear hx
  go_wp2_with fail
  go_ret
  exact ⟨x, rfl, hx', hr3, HU.out.trans ((Upd.alloc _ _).trans hu3)⟩

def GotInts (w : World) (B c : Nat) (Q : List Int → Prop) (e : Ending) (w' : World) : Prop :=
  ∃ (a : Option Addr) (cap : Nat) (l : List Int), e = .returned (.slice a l.length cap) ∧ (Ints w' w.heap.size w'.heap.size a l ∧ IntBlk w' a l ∧ Cap l.length cap) ∧ Q l ∧ Reader w' B c ∧ Upd B (B + 1) w w'

set_option maxHeartbeats 1000000 in
theorem someVector_any (w : World) (B c : Nat) (hr : Reader w B c) (hc : c ≤ 1099511627000) :
    Calls Try.prog 79 #[.pointer (some ⟨B, 0, none⟩)] w (GotInts w B (c + 12) fun l => l.length = 4 ∧ coordsB l = true) := by
  have hB := hr.lt
  have HR := Lib.hid hr
  go_enter Try.func79, Try.ntmps79
  go_wp2
  go_loopw [3, 4] (fun v i wr => ∃ (k : Nat) (l : List Int), k ≤ 4 ∧ i = .int .i64 (k : Int) ∧ Hid (l.length = k ∧ coordsB l = true) ∧ wr.ownsRow w.heap.size 3 1 v k (l.map (Value.int .i64)) ∧ Reader wr B (c + 3 * k) ∧ Upd B (B + 1) w wr) (fun _ i _ => 4 - (intOf i).toNat)
  case atStart => exact ⟨0, [], by omega, rfl, ⟨rfl, rfl⟩, owns_empty w _ _ _ (Nat.le_refl _), hr.keep ((Below.refl _ _).alloc hB _), Upd.alloc _ _⟩
  case round =>
    obtain ⟨k, l, hk, rfl, hl, hown, hr1, hu⟩ := hrel
    have HU := Lib.hid hu
    have HO := Lib.hid hown
    have hs := hu.size
    clear hu hown
    by_cases hlt : k < 4
    · go_wp2_with (first
        | (go_at_call 97; refine (someCoord_any _ _ _ hr1 (by omega)).mono ?_; rintro e w2 ⟨x, rfl, hx, hr2, hu2⟩; have HU2 := Lib.hid hu2; have HR2 := Lib.hid hr2; clear hu2 hr2)
        | (at_builtin; refine append1 rfl _ _ 31 rfl w.heap.size 3 Try.underlying31 infoInt rfl (by omega) (by omega) _ k (l.map (Value.int .i64)) rfl (owns_upd HO.out HU2.out (by omega)) [.int .i64 x] rfl rfl (ints_cells [x]) (by omega) (by have := HU2.out.size; omega) ?_; intro v' w3 hown3 hg3; have HO3 := Lib.hid hown3; have HG3 := Lib.hid hg3; clear hown3 hg3))
      go_roundw
      case rel =>
        refine ⟨k + 1, l ++ [x], by omega, by go_num, ⟨by simp [hl.out.1], by rw [coordsB_snoc, hl.out.2, decide_eq_true hx]; rfl⟩, by rw [List.map_append]; exact HO3.out, ?_, (HU.out.trans HU2.out).grow HG3.out (owns_block HO.out)⟩
        exact (HR2.out.grown HG3.out (fun j hj => by have := owns_block HO.out j hj; omega)).mono (by omega)
      case measure => simp [intOf]; omega
    · go_wp2
      go_ret
      have h4 : k = 4 := by omega
      subst h4
      have hc := coordsB_ok hl.out.2
      obtain ⟨a, cap, rfl, hi⟩ := ints_of_owns HO.out (fun x hx => by have := hc x hx; omega) (by omega)
      exact ⟨a, cap, l, rfl, ⟨hi, intBlk_of_owns HO.out, owns_cap HO.out⟩, hl.out, hr1.mono (by omega), HU.out⟩

def OwnPost (w : World) (l : List Int) (e : Ending) (w' : World) : Prop :=
  ∃ g cap, e = .returned (.slice (some ⟨g, 0, none⟩) l.length cap) ∧ l.length ≤ cap ∧ cap ≤ 9223372036854775807 ∧ w'.ownsRow w.heap.size 3 1 (.slice (some ⟨g, 0, none⟩) l.length cap) l.length (l.map (Value.int .i64)) ∧ Below w.heap.size w w'

set_option maxHeartbeats 400000 in
theorem copyInts_any (w : World) (lo hi : Nat) (a : Option Addr) (cap : Nat) (l : List Int) (h : Ints w lo hi a l) (hl : l.length ≤ 1099511627775) (hn : 1 ≤ l.length) :
    Calls Try.prog 59 #[.slice a l.length cap] w (OwnPost w l) := by
  obtain ⟨i, hi, hz, hi1, hi2⟩ := info_parts infoInt
  have HE := Lib.hid (owns_empty w w.heap.size 3 1 (Nat.le_refl _))
  obtain ⟨b, off, rfl, _, _, hc⟩ := h.cells (by rintro rfl; simp at hn)
  have hc' : Hid (∀ j u, (l.map (Value.int .i64))[j]? = some u → w.cell? ((⟨b, off, none⟩ : Addr).add j) = some u) := by
    show ∀ j u, _ → _
    intro j u hj
    rw [add_none]
    have hjl : j < l.length := by
      have := (List.getElem?_eq_some_iff.1 hj).1
      simpa using this
    rw [hc j hjl]
    rw [List.getElem?_map, List.getElem?_eq_getElem hjl] at hj
    rw [List.getD_eq_getElem?_getD, List.getElem?_eq_getElem hjl]
    exact hj
  clear hc
  go_enter Try.func59, Try.ntmps59
  go_wp2_with (at_builtin; refine wpList_append_own _ rfl _ _ 31 rfl w.heap.size 3 i (.int .i64 0) 1 8 Try.underlying31 hi hz hi1 hi2 rfl (by omega) _ 0 [] rfl HE.out ⟨b, off, none⟩ l.length cap (l.map (Value.int .i64)) rfl (by simp) (fun j u hj => cell_later ((Below.refl _ _).alloc (Nat.le_refl _) _) (hc'.out j u hj)) (ints_cells l) (by unfold maxLen; omega) (by omega) (by simp) ?_; intro v' w1 hown1 hg1 _; have HO := Lib.hid hown1; have HG := Lib.hid hg1; clear hown1 hg1)
  go_ret
  have HO' : w1.ownsRow w.heap.size 3 1 v' l.length (l.map (Value.int .i64)) := by simpa using HO.out
  obtain ⟨g, cap', rfl, _, h1, h2⟩ := owns_shape HO' hn
  exact ⟨g, cap', rfl, h1, h2, HO', ((Below.refl _ _).alloc (Nat.le_refl _) _).grown HG.out (by simp) (owns_block HE.out)⟩
set_option maxHeartbeats 1000000 in
theorem spoil_any (w : World) (B c lo hi : Nat) (a : Option Addr) (cap : Nat) (l : List Int) (hr : Reader w B c) (hc : c ≤ 1099511627000) (h : Ints w lo hi a l) (hl : l.length ≤ 4) (hn : 2 ≤ l.length) (hd : B < lo) :
    Calls Try.prog 78 #[.pointer (some ⟨B, 0, none⟩), .slice a l.length cap, .int .i64 101] w (GotInts w B (c + 3) fun l => 1 ≤ l.length ∧ l.length ≤ 5) := by
  have hB := hr.lt
  have hok := h.ok
  have C := Lib.hid (copyInts_any w lo hi a cap l h (by omega) (by omega))
  have HOK := Lib.hid hok
  clear hok
  go_enter Try.func78, Try.ntmps78
  go_wp2_with fail
  refine C.out.mono ?_
  rintro e w1 ⟨g, gcap, rfl, hcap, hcap', hown, hb⟩
  have hr1 := hr.keep (hb.mono hB)
  have hs := hb.size
  have HO := Lib.hid hown
  have HB := Lib.hid hb
  clear hown hb
  go_wp2_with fail
  refine (pick_any _ _ _ _ hr1 (by omega) (by omega) (by omega)).mono ?_
  rintro e w2 ⟨p, rfl, p0, p1, hr2, hu2, hs2⟩
  have HU2 := Lib.hid hu2
  have HO2 := Lib.hid (owns_upd HO.out hu2 (by omega))
  have HS2 := Lib.hid hs2
  have hs3 : w.heap.size ≤ w2.heap.size := by omega
  clear hu2 hs2
  by_cases k0 : p = 0
  · subst k0
    go_wp2_with (at_builtin; refine append1 rfl _ _ 31 rfl w.heap.size 3 Try.underlying31 infoInt rfl (by omega) (by omega) _ l.length (l.map (Value.int .i64)) rfl HO2.out [.int .i64 101] rfl rfl (ints_cells [101]) (by omega) (by omega) ?_; intro v' w3 hown3 hg3; have HO3 := Lib.hid hown3; have HG3 := Lib.hid hg3; clear hown3 hg3)
    go_ret
    obtain ⟨a', cap', rfl, hi'⟩ := ints_of_owns (l := l ++ [101]) (by rw [List.map_append]; exact HO3.out) (fun x hx => by rcases List.mem_append.1 hx with hx | hx; exact HOK.out x hx; simp at hx; omega) (by omega)
    exact ⟨a', cap', l ++ [101], rfl, ⟨hi', intBlk_of_owns HO3.out, owns_cap HO3.out⟩, by simp; omega, (hr2.grown HG3.out (fun j hj => by have := owns_block HO.out j hj; omega)).mono (by omega), ((Upd.of_below HB.out).trans HU2.out).grow HG3.out (owns_block HO.out)⟩
  · by_cases k1 : p = 1
    · subst k1
      have hlc : (1 : Int) ≤ l.length := by omega
      have hcc : 1 < gcap := by omega
      go_wp2_with fail
      go_ret
      obtain ⟨a', cap', hv, hi'⟩ := ints_of_owns HO2.out HOK.out (by omega)
      simp only [Value.slice.injEq] at hv
      obtain ⟨rfl, _, rfl⟩ := hv
      exact ⟨_, _, l.drop 1, ret_slice (by simp), ⟨hi'.drop 1, intBlk_off HO2.out _ _, by simp; omega, by omega⟩, ⟨by simp; omega, by simp; omega⟩, hr2.mono (by omega), (Upd.of_below HB.out).trans HU2.out⟩
    · by_cases k2 : p = 2
      · subst k2
        have hlc : (1 : Int) ≤ l.length := by omega
        go_wp2_with fail
        refine (pick_any _ _ _ _ hr2 (by omega) (by omega) (by omega)).mono ?_
        rintro e w3 ⟨m, rfl, m0, m1, hr3, hu3, hs3⟩
        have hk : ∃ k : Nat, m = (k : Int) ∧ k < l.length := ⟨m.toNat, by omega, by omega⟩
        obtain ⟨k, rfl, hk⟩ := hk
        have HU3 := Lib.hid hu3
        have HO3 := Lib.hid (owns_upd HO2.out hu3 (by omega))
        have hs4 : w.heap.size ≤ w3.heap.size := by omega
        clear hu3 hs3 m0 m1
        go_wp2_with fail
        refine (one_any _ B (c + 1 + 1) _ _ _ _ [-1, 101, 0, 1] (hr3.keep ((Below.refl _ _).alloc (by omega) _)) (by omega) (ints_lit w3 _ _ (fun x hx => by simp at hx; omega) (by simp)) (by simp) (by omega)).mono ?_
        rintro e w4 ⟨x, rfl, hx, hr4, hu4, hs4'⟩
        have HO4 := Lib.hid (owns_upd (HO3.out.alloc _) hu4 (by omega))
        have HU4 := Lib.hid ((Upd.alloc (lo := B) (hi := B + 1) w3 _).trans hu4)
        have hf := HO4.out.frozenAt k
        have hcell := HO4.out.cellAt k (by omega)
        clear hs4' hu4
        go_wp2_with fail
        go_ret
        have HO5 := HO4.out.stored k (.int .i64 x)
        rw [← List.map_set] at HO5
        have hblk : ∀ j, some g = some j → w.heap.size ≤ j := fun j hj => owns_block HO.out j hj
        obtain ⟨a', cap', hv, hi'⟩ := ints_of_owns HO5.1 (fun y hy => by rcases List.mem_or_eq_of_mem_set hy with hy | rfl; exact HOK.out y hy; simp at hx; omega) (by omega)
        simp only [Value.slice.injEq] at hv
        obtain ⟨rfl, _, rfl⟩ := hv
        exact ⟨_, _, l.set k x, ret_slice (by simp), ⟨hi', intBlk_off HO5.1 _ _, by simp; omega, by omega⟩, ⟨by simp; omega, by simp; omega⟩, (hr4.grown HO5.2 (fun j hj => by have := hblk j hj; omega)).mono (by omega), ((((Upd.of_below HB.out).trans HU2.out).trans HU3.out).trans HU4.out).grow HO5.2 hblk⟩
      · go_wp2_with fail
        go_ret
        obtain ⟨a', cap', hv, hi'⟩ := ints_of_owns HO2.out HOK.out (by omega)
        exact ⟨_, _, l, rfl, by simp only [Value.slice.injEq] at hv; obtain ⟨rfl, _, rfl⟩ := hv; exact ⟨hi', intBlk_off HO2.out _ _, hcap, hcap'⟩, ⟨by omega, by omega⟩, hr2.mono (by omega), (Upd.of_below HB.out).trans HU2.out⟩
set_option maxHeartbeats 1000000 in
theorem anyVector_any (w : World) (B c : Nat) (hr : Reader w B c) (hc : c ≤ 1099511620000) :
    Calls Try.prog 58 #[.pointer (some ⟨B, 0, none⟩)] w (GotInts w B (c + 20) fun l => 1 ≤ l.length ∧ l.length ≤ 5) := by
  have hB := hr.lt
  go_enter Try.func58, Try.ntmps58
  go_wp2_with fail
  refine (pick_any _ _ _ _ hr (by omega) (by omega) (by omega)).mono ?_
  rintro e w1 ⟨p, rfl, p0, p1, hr1, hu1, hs1⟩
  have HU1 := Lib.hid hu1
  have hs : w.heap.size ≤ w1.heap.size := by omega
  clear hu1 hs1
  by_cases k0 : p = 0
  · subst k0
    go_wp2_with fail
    refine (someVector_any _ _ _ hr1 (by omega)).mono ?_
    rintro e w2 ⟨a, cap, l, rfl, hi, hl, hr2, hu2⟩
    have HI := Lib.hid hi
    have HU2 := Lib.hid hu2
    have HL := Lib.hid hl
    have hs2 := hu2.size
    clear hi hu2 hl
    go_wp2_with fail
    refine (spoil_any _ _ _ _ _ _ _ _ hr2 (by omega) HI.out.1 (by have := HL.out.1; omega) (by have := HL.out.1; omega) (by omega)).mono ?_
    rintro e w3 ⟨a', cap', l', rfl, hi, hl, hr3, hu3⟩
    have HI3 := Lib.hid hi
    have HU3 := Lib.hid hu3
    have HL3 := Lib.hid hl
    clear hi hu3 hl
    go_wp2_with fail
    go_ret
    exact ⟨a', cap', l', rfl, ⟨HI3.out.1.wide (by omega) (Nat.le_refl _), HI3.out.2⟩, HL3.out, hr3.mono (by omega), (HU1.out.trans HU2.out).trans HU3.out⟩
  · go_wp2_with fail
    refine (someVector_any _ _ _ hr1 (by omega)).mono ?_
    rintro e w2 ⟨a, cap, l, rfl, hi, hl, hr2, hu2⟩
    have HI := Lib.hid hi
    have HU2 := Lib.hid hu2
    have HL := Lib.hid hl
    clear hi hu2 hl
    go_wp2_with fail
    go_ret
    have h4 := HL.out.1
    exact ⟨a, cap, l, rfl, ⟨HI.out.1.wide (by omega) (Nat.le_refl _), HI.out.2⟩, ⟨by omega, by omega⟩, hr2.mono (by omega), HU1.out.trans HU2.out⟩
def GotLists (w : World) (B c : Nat) (Q : List (List Int) → Prop) (e : Ending) (w' : World) : Prop :=
  ∃ (a : Option Addr) (cap : Nat) (ll : List (List Int)), e = .returned (.slice a ll.length cap) ∧ OwnLists w' w.heap.size w'.heap.size (.slice a ll.length cap) ll ∧ Q ll ∧ Reader w' B c ∧ Upd B (B + 1) w w'

def ReadLists (w : World) (B c : Nat) (Q : List (List Int) → Prop) (e : Ending) (w' : World) : Prop :=
  ∃ (a : Option Addr) (cap : Nat) (ll : List (List Int)), e = .returned (.slice a ll.length cap) ∧ (Lists w' w.heap.size w'.heap.size a ll ∧ Cap ll.length cap) ∧ Q ll ∧ Reader w' B c ∧ Upd B (B + 1) w w'

end Go.Proofs.Ytlammenejgagdaa
