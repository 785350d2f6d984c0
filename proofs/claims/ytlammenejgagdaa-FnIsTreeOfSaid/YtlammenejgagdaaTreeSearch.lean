/-
  The walks of the reference's search, TreeNearest and TreeVisits, and of the program's TreeNearest.
-/
import Derived.Test.YtlammenejgagdaaTreeSeek
import Derived.Test.YtlammenejgagdaaQueryWalks
import Derived.Test.YtlammenejgagdaaInRange
namespace Go.Proofs.Ytlammenejgagdaa
open Go.RowKit
set_option linter.unusedVariables false

/-- the kinds of distances for trees -/
def metB (kind : Int) : Bool := kndB kind && kind != 3
theorem Ints.allw {w : World} {lo hi : Nat} {a : Option Addr} {l : List Int} (h : Ints w lo hi a l) : Ints w 0 w.heap.size a l := by
  refine ⟨fun hne => ?_, h.len, h.ok⟩
  obtain ⟨b, off, ha, _, _, h3⟩ := h.cells hne
  exact ⟨b, off, ha, Nat.zero_le _, World.block_lt_of_cell? w _ (h3 0 (List.length_pos_iff.2 hne)), h3⟩
def SearchPost (w : World) (h : List Ht) (s : Nat) (e : Ending) (w' : World) : Prop :=
  ∃ (P hc k : Nat) (nv lv av : Value) (kind : Int) (ha : Option Addr), e = .returned (.pointer (some ⟨P, 0, none⟩)) ∧ SeekB w' P nv lv kind av (k : Int) (.slice ha h.length hc) (s : Int) ∧ Hits w' (P + 1) w'.heap.size ha h ∧ (h = [] → ha = none ∧ hc = 0) ∧ Below w.heap.size w w'
set_option maxHeartbeats 1000000 in
theorem search_any (w : World) (lo hi lo' hi' : Nat) (a b : Option Addr) (cap capm k : Nat) (kind : Int) (ll : List It) (q : List Int) (hI : Items w lo hi a ll) (hB : Ints w lo' hi' b q) (hc : Cap ll.length cap) (hst : storeB ll = true) (hq : vecB q 4 = true) (hk : 1 ≤ k ∧ k ≤ 16) :
    Calls Try.prog 39 #[.slice a ll.length cap, .int .i64 kind, .slice b q.length capm, .int .i64 (k : Int)] w (SearchPost w ((tr kind ll).vis kind q k []).1 ((tr kind ll).vis kind q k []).2) := by
  have hl16 := storeB_len hst
  have b1 := below_alloc w (.cells #[] 46)
  have G := grow_any kind ll.length ll (Nat.le_refl _) (w.alloc (.cells #[] 46)) w.heap.size w.heap.size 0 cap a [] (owns_empty w w.heap.size 46 4 (Nat.le_refl _)) ((ItemsB.of_items hI.all (Nat.le_refl _)).below b1) hc b1.size (fun x hx => by
    obtain ⟨j, hj, e⟩ := List.getElem_of_mem hx
    have h := storeB_vec hst hj
    rwa [List.getD_eq_getElem?_getD, List.getElem?_eq_getElem hj, Option.getD_some, e] at h) (by show 0 + ll.length ≤ 1000; omega)
  rw [List.nil_append] at G
  have hNl : ((tr kind ll).nds 0).length = ll.length := by rw [Tr.nds_length, tr_size]
  have hsub : SubN ((tr kind ll).nds 0) (tr kind ll) 0 := ⟨[], [], by simp, rfl⟩
  have htop : 0 < ll.length → (tr kind ll).top 0 = 0 := fun h => by rw [tr_top, if_neg (by omega)]; rfl
  have hvis : ll.length = 0 → (tr kind ll).vis kind q k [] = ([], 0) := fun h => by rw [List.eq_nil_of_length_eq_zero h]; rfl
  have V := Lib.hid fun B g c nn hgB hN => visit_any B g c nn cap capm a b ll kind q k ((tr kind ll).nds 0) hgB hst hq hk hN (tr kind ll) 0 hsub (fun x hx => by
    obtain ⟨j, hj, e⟩ := List.getElem_of_mem ((tr_items kind ll).mem_iff.1 hx)
    exact ⟨j, hj, by rw [List.getD_eq_getElem?_getD, List.getElem?_eq_getElem hj, Option.getD_some, e]⟩)
  have HSI := Lib.hid (And.intro hI.all hB.allw)
  have HN := Lib.hid hNl
  have HTS : Hid ((tr kind ll).size = ll.length) := Lib.hid (tr_size kind ll)
  have HTOP := Lib.hid htop
  have HVIS := Lib.hid hvis
  have HB1 := Lib.hid b1
  have HG := Lib.hid G
  obtain ⟨N, eN⟩ : ∃ N, (tr kind ll).nds 0 = N := ⟨_, rfl⟩
  have e0 : (tr kind ll).nds ([] : List Nd).length = N := eN
  rw [e0] at HG
  rw [eN] at V HN
  obtain ⟨t, et⟩ : ∃ t, tr kind ll = t := ⟨_, rfl⟩
  rw [et] at V HTS HTOP HVIS ⊢
  clear G hNl hsub htop hvis hI hB hst hq b1 e0 eN et
  go_enter Try.func39, Try.ntmps39
  go_wp2_with fail
  refine HG.out.mono ?_
  rintro e w2 ⟨g2, c2, rfl, ho2, hk2⟩
  have hb2 : Below w.heap.size w w2 := HB1.out.trans (hk2.below (fun _ e => e.elim) HB1.out.size)
  have hgB := (ho2.lt g2 rfl).2
  have hs2 := hb2.size
  have hb3 := below_alloc w2 (.cells #[.slice (some ⟨g2, 0, none⟩) N.length c2, .slice a ll.length cap, .int .i64 kind, .slice b q.length capm, .int .i64 (k : Int), .slice none 0 0, .int .i64 0] 56)
  have hS3 : SeekAt (w2.alloc (.cells #[.slice (some ⟨g2, 0, none⟩) N.length c2, .slice a ll.length cap, .int .i64 kind, .slice b q.length capm, .int .i64 (k : Int), .slice none 0 0, .int .i64 0] 56)) w2.heap.size g2 c2 N.length cap capm a b ll kind q k N [] 0 :=
    ⟨⟨none, 0, heap_alloc_new w2 _, Hits.nil _ _ _ _, fun _ => ⟨rfl, rfl⟩⟩, nodesR_own (ho2.alloc _), ((HSI.out.1.below (hb2.trans (hb3.mono hs2))).wide (Nat.le_refl _) hs2), ((HSI.out.2.below (hb2.trans (hb3.mono hs2))).wide (Nat.le_refl _) hs2)⟩
  obtain ⟨W3, hW3⟩ : ∃ W3, w2.alloc (.cells #[.slice (some ⟨g2, 0, none⟩) N.length c2, .slice a ll.length cap, .int .i64 kind, .slice b q.length capm, .int .i64 (k : Int), .slice none 0 0, .int .i64 0] 56) = W3 := ⟨_, rfl⟩
  rw [hW3] at hS3 hb3
  have HB3 : Hid (Below w.heap.size w W3) := Lib.hid (hb2.trans (hb3.mono hs2))
  have HS3 := Lib.hid hS3
  have HV := V.out w2.heap.size g2 c2 N.length hgB ⟨rfl, by rw [HN.out]; omega⟩ W3 [] 0 hS3 ⟨List.Pairwise.nil, fun y hy => by cases hy⟩ (Nat.zero_le _) (by rw [HTS.out]; omega)
  by_cases hll : ll.length = 0
  · have HF : Hid (SearchPost w (t.vis kind q k []).1 (t.vis kind q k []).2 (.returned (.pointer (some ⟨w2.heap.size, 0, none⟩))) W3) := Lib.hid (by
      rw [HVIS.out hll]
      obtain ⟨⟨ha, hc, q1, q2, q3⟩, -⟩ := hS3
      exact ⟨w2.heap.size, hc, k, _, _, _, kind, ha, rfl, q1, q2, q3, HB3.out⟩)
    have hl0 : ¬ (0 : Int) < (ll.length : Int) := by omega
    clear hb2 hb3 hS3 ho2 hk2 HV hll V
    go_wp2_with fail
    go_ret
    exact HF.out
  · have hl0 : (0 : Int) < (ll.length : Int) := by omega
    rw [HTOP.out (by omega), Nat.zero_add] at HV
    have HVH := Lib.hid HV
    obtain ⟨⟨h, s⟩, eh⟩ : ∃ p, t.vis kind q k [] = p := ⟨_, rfl⟩
    rw [eh] at HVH
    dsimp only at HVH
    have HEH := Lib.hid eh
    clear hb2 hb3 hS3 ho2 hk2 HV hll V eh
    go_wp2_with fail
    refine HVH.out.mono ?_
    rintro e w4 ⟨rfl, hS4, hu4⟩
    have HF : Hid (SearchPost w (t.vis kind q k []).1 (t.vis kind q k []).2 (.returned (.pointer (some ⟨w2.heap.size, 0, none⟩))) w4) := Lib.hid (by
      rw [HEH.out]
      obtain ⟨⟨ha, hc, q1, q2, q3⟩, -⟩ := hS4
      exact ⟨w2.heap.size, hc, k, _, _, _, kind, ha, rfl, q1, q2, q3, HB3.out.trans (hu4.low hs2 HB3.out.size)⟩)
    clear hS4 hu4
    go_wp2_with fail
    go_ret
    exact HF.out
theorem isTreeKind_any (kind : Int) (w : World) : Calls Try.prog 27 #[.int .i64 kind] w fun e w' => e = .returned (.bool (metB kind)) ∧ w = w' := by
  cases h1 : kndB kind
  · have hr : metB kind = false := by unfold metB; rw [h1]; rfl
    rw [hr]
    have IK := isKnd_any kind
    rw [h1] at IK
    clear hr h1
    go_enter Try.func27, Try.ntmps27
    go_wp2_with fail
    refine (IK _).mono ?_
    rintro e w2 ⟨rfl, rfl⟩
    go_wp2_with fail
    go_ret
    exact ⟨rfl, rfl⟩
  · have hr : metB kind = (kind != 3) := by unfold metB; rw [h1]; rfl
    rw [hr]
    have IK := isKnd_any kind
    rw [h1] at IK
    obtain ⟨b, eb⟩ : ∃ b, (kind != 3) = b := ⟨_, rfl⟩
    have HE := Lib.hid eb
    rw [eb]
    clear hr h1
    go_enter Try.func27, Try.ntmps27
    go_wp2_with fail
    refine (IK _).mono ?_
    rintro e w2 ⟨rfl, rfl⟩
    go_wp2_with fail
    go_ret
    exact ⟨rfl, rfl⟩
theorem isMetric_any (kind : Int) (w : World) : Calls Try.prog 31 #[.int .i64 kind] w fun e w' => e = .returned (.bool (metB kind)) ∧ w = w' := by
  cases h1 : kndB kind
  · have hr : metB kind = false := by unfold metB; rw [h1]; rfl
    rw [hr]
    have IK := validKind_any kind
    rw [h1] at IK
    clear hr h1
    go_enter Try.func31, Try.ntmps31
    go_wp2_with fail
    refine (IK _).mono ?_
    rintro e w2 ⟨rfl, rfl⟩
    go_wp2_with fail
    go_ret
    exact ⟨rfl, rfl⟩
  · have hr : metB kind = (kind != 3) := by unfold metB; rw [h1]; rfl
    rw [hr]
    have IK := validKind_any kind
    rw [h1] at IK
    obtain ⟨b, eb⟩ : ∃ b, (kind != 3) = b := ⟨_, rfl⟩
    have HE := Lib.hid eb
    rw [eb]
    clear hr h1
    go_enter Try.func31, Try.ntmps31
    go_wp2_with fail
    refine (IK _).mono ?_
    rintro e w2 ⟨rfl, rfl⟩
    go_wp2_with fail
    go_ret
    exact ⟨rfl, rfl⟩
end Go.Proofs.Ytlammenejgagdaa
