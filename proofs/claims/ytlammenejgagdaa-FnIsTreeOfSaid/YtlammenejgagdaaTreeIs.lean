/-
  The walks of BuildTree and IsTreeOf, the program's and the reference's.
-/
import Derived.Test.YtlammenejgagdaaTreeNodes
import Derived.Test.YtlammenejgagdaaTreeTop
import Derived.Test.YtlammenejgagdaaTreeSearch
namespace Go.Proofs.Ytlammenejgagdaa
open Go.RowKit
set_option linter.unusedVariables false

/-- what BuildTree answers -/
def btV (kind : Int) (ll : List It) : List Nd := if storeB ll && metB kind then (tr kind ll).nds 0 else []
theorem btV_yes {kind : Int} {ll : List It} (h1 : storeB ll = true) (h2 : metB kind = true) : btV kind ll = (tr kind ll).nds 0 := by unfold btV; rw [h1, h2]; rfl
theorem btV_no1 {kind : Int} {ll : List It} (h1 : storeB ll = false) : btV kind ll = [] := by unfold btV; rw [h1]; rfl
theorem btV_no2 {kind : Int} {ll : List It} (h2 : metB kind = false) : btV kind ll = [] := by unfold btV; rw [h2, Bool.and_false]; rfl
/-- what IsTreeOf answers -/
def isV (kind : Int) (ll : List It) (N : List Nd) : Bool := storeB ll && (metB kind && eqN N ((tr kind ll).nds 0))
theorem isV_no1 {kind : Int} {ll : List It} {N : List Nd} (h1 : storeB ll = false) : isV kind ll N = false := by unfold isV; rw [h1]; rfl
theorem isV_no2 {kind : Int} {ll : List It} {N : List Nd} (h2 : metB kind = false) : isV kind ll N = false := by unfold isV; rw [h2]; simp
theorem isV_yes {kind : Int} {ll : List It} {N : List Nd} (h1 : storeB ll = true) (h2 : metB kind = true) : isV kind ll N = eqN N ((tr kind ll).nds 0) := by unfold isV; rw [h1, h2]; rfl
theorem isV_law {kind : Int} {ll : List It} {N : List Nd} (h : isV kind ll N = true) : btV kind ll = N ∧ N.length = ll.length := by
  have h' := h
  unfold isV eqN at h'
  simp only [Bool.and_eq_true, decide_eq_true_eq] at h'
  obtain ⟨h1, h2, h3⟩ := h'
  rw [btV_yes h1 h2, h3]
  exact ⟨rfl, by rw [Tr.nds_length, tr_size]⟩
/-- nodes of the call's own, or none -/
def GotNodes (w : World) (N : List Nd) (e : Ending) (w' : World) : Prop :=
  ∃ v, e = .returned v ∧ w'.ownsRow w.heap.size 46 4 v N.length (flatN N) ∧ Below w.heap.size w w'
theorem GotNodes.nil {w w' : World} (h : Below w.heap.size w w') : GotNodes w [] (.returned (.slice none 0 0)) w' := ⟨_, rfl, ⟨rfl, .inl ⟨rfl, rfl⟩⟩, h⟩
theorem NewNodes.got {w w2 w' : World} {N : List Nd} {e : Ending} (h : NewNodes w2 N e w') (hb : Below w.heap.size w w2) : GotNodes w N e w' := by
  obtain ⟨g, c, rfl, ho, hb2⟩ := h
  exact ⟨_, rfl, ⟨ho.1, ho.2.imp id fun ⟨g', c', cur, q1, q2, q3⟩ => ⟨g', c', cur, q1, Nat.le_trans hb.size q2, q3⟩⟩, hb.trans (hb2.mono hb.size)⟩
theorem storeB_mem {ll : List It} (h : storeB ll = true) : ∀ x ∈ ll, vecB x.pos 4 = true := fun x hx => by
  obtain ⟨j, hj, e⟩ := List.getElem_of_mem hx
  have h := storeB_vec h hj
  rwa [List.getD_eq_getElem?_getD, List.getElem?_eq_getElem hj, Option.getD_some, e] at h
theorem storeB_keys {ll : List It} (h : storeB ll = true) : ll.Pairwise fun a b => a.key ≠ b.key :=
  List.pairwise_iff_getElem.2 fun i j hi hj hij => by
    have h := (storeB_AscI h).nodup i j hij hj
    rw [List.getD_eq_getElem?_getD, List.getElem?_eq_getElem hi, List.getD_eq_getElem?_getD, List.getElem?_eq_getElem hj] at h
    exact h
theorem buildTree_store (w : World) (lo hi : Nat) (a : Option Addr) (cap : Nat) (kind : Int) (ll : List It) (hI : Items w lo hi a ll) (hc : Cap ll.length cap) (hs : storeB ll = true) :
    Calls Try.prog 29 #[.slice a ll.length cap, .int .i64 kind] w (NewNodes w ((tr kind ll).nds 0)) :=
  buildTree_any w a cap kind ll hI.all hc (storeB_mem hs) (storeB_keys hs) (by have := storeB_len hs; omega)
theorem grow_store (w : World) (lo hi : Nat) (a : Option Addr) (cap : Nat) (kind : Int) (ll : List It) (hI : Items w lo hi a ll) (hc : Cap ll.length cap) (hs : storeB ll = true) :
    Calls Try.prog 33 #[.slice (some ⟨w.heap.size, 0, none⟩) 0 0, .slice a ll.length cap, .int .i64 kind] (w.alloc (.cells #[] 46)) (NewNodes w ((tr kind ll).nds 0)) := by
  have b1 := below_alloc w (.cells #[] 46)
  have hl := storeB_len hs
  have G := grow_any kind ll.length ll (Nat.le_refl _) (w.alloc (.cells #[] 46)) w.heap.size w.heap.size 0 cap a [] (owns_empty w w.heap.size 46 4 (Nat.le_refl _)) ((ItemsB.of_items hI.all (Nat.le_refl _)).below b1) hc b1.size (storeB_mem hs) (by show 0 + ll.length ≤ 1000; omega)
  rw [List.nil_append] at G
  refine Calls.mono G ?_
  rintro e w' ⟨g, c, rfl, ho, hk⟩
  exact ⟨g, c, rfl, ho, b1.trans (hk.below (fun _ e => e.elim) b1.size)⟩
set_option maxHeartbeats 1000000 in
theorem implBuildTree (w : World) (lo hi : Nat) (a : Option Addr) (cap : Nat) (kind : Int) (ll : List It) (hI : Items w lo hi a ll) (hc : Cap ll.length cap) :
    Calls Try.prog 13 #[.slice a ll.length cap, .int .i64 kind] w (GotNodes w (btV kind ll)) := by
  cases hs : storeB ll
  · rw [btV_no1 hs]
    have VS := Lib.hid (implValidStore w lo hi a cap ll hI)
    rw [hs] at VS
    clear hs hI 
    go_enter Try.func13, Try.ntmps13
    go_wp2_with fail
    refine VS.out.mono ?_
    rintro e w2 ⟨rfl, hb2⟩
    have HB2 := Lib.hid hb2
    clear hb2
    go_wp2_with fail
    go_ret
    exact GotNodes.nil HB2.out
  · cases hm : metB kind
    · rw [btV_no2 hm]
      have VS := Lib.hid (implValidStore w lo hi a cap ll hI)
      have KM := Lib.hid (isTreeKind_any kind)
      rw [hs] at VS
      rw [hm] at KM
      clear hs hm hI 
      go_enter Try.func13, Try.ntmps13
      go_wp2_with fail
      refine VS.out.mono ?_
      rintro e w2 ⟨rfl, hb2⟩
      have HB2 := Lib.hid hb2
      clear hb2
      go_wp2_with fail
      refine (KM.out _).mono ?_
      rintro e w3 ⟨rfl, rfl⟩
      go_wp2_with fail
      go_ret
      exact GotNodes.nil HB2.out
    · rw [btV_yes hs hm]
      have VS := Lib.hid (implValidStore w lo hi a cap ll hI)
      have KM := Lib.hid (isTreeKind_any kind)
      have BT := Lib.hid fun w' (bl : Below w.heap.size w w') => buildTree_store w' lo hi a cap kind ll (hI.below bl) hc hs
      rw [hs] at VS
      rw [hm] at KM
      skip
      obtain ⟨T, eT⟩ : ∃ T, (tr kind ll).nds 0 = T := ⟨_, rfl⟩
      rw [eT] at BT ⊢
      clear hs hm hI  eT
      go_enter Try.func13, Try.ntmps13
      go_wp2_with fail
      refine VS.out.mono ?_
      rintro e w2 ⟨rfl, hb2⟩
      have HB2 := Lib.hid hb2
      have hs2 := hb2.size
      clear hb2
      go_wp2_with fail
      refine (KM.out _).mono ?_
      rintro e w3 ⟨rfl, rfl⟩
      go_wp2_with fail
      refine (BT.out _ HB2.out).mono ?_
      rintro e w4 ⟨g, c, rfl, ho, hb⟩
      have HF := Lib.hid (NewNodes.got ⟨g, c, rfl, ho, hb⟩ HB2.out)
      clear ho hb
      go_wp2_with fail
      go_ret
      exact HF.out
set_option maxHeartbeats 1000000 in
theorem specBuildTree (w : World) (lo hi : Nat) (a : Option Addr) (cap : Nat) (kind : Int) (ll : List It) (hI : Items w lo hi a ll) (hc : Cap ll.length cap) :
    Calls Try.prog 24 #[.slice a ll.length cap, .int .i64 kind] w (GotNodes w (btV kind ll)) := by
  cases hs : storeB ll
  · rw [btV_no1 hs]
    have VS := Lib.hid (specValidStoreIn w lo hi a cap ll hI)
    rw [hs] at VS
    clear hs hI 
    go_enter Try.func24, Try.ntmps24
    go_wp2_with fail
    refine VS.out.mono ?_
    rintro e w2 ⟨rfl, hb2⟩
    have HB2 := Lib.hid hb2
    clear hb2
    go_wp2_with fail
    go_ret
    exact GotNodes.nil HB2.out
  · cases hm : metB kind
    · rw [btV_no2 hm]
      have VS := Lib.hid (specValidStoreIn w lo hi a cap ll hI)
      have KM := Lib.hid (isMetric_any kind)
      rw [hs] at VS
      rw [hm] at KM
      clear hs hm hI 
      go_enter Try.func24, Try.ntmps24
      go_wp2_with fail
      refine VS.out.mono ?_
      rintro e w2 ⟨rfl, hb2⟩
      have HB2 := Lib.hid hb2
      clear hb2
      go_wp2_with fail
      refine (KM.out _).mono ?_
      rintro e w3 ⟨rfl, rfl⟩
      go_wp2_with fail
      go_ret
      exact GotNodes.nil HB2.out
    · rw [btV_yes hs hm]
      have VS := Lib.hid (specValidStoreIn w lo hi a cap ll hI)
      have KM := Lib.hid (isMetric_any kind)
      have BT := Lib.hid fun w' (bl : Below w.heap.size w w') => grow_store w' lo hi a cap kind ll (hI.below bl) hc hs
      rw [hs] at VS
      rw [hm] at KM
      skip
      obtain ⟨T, eT⟩ : ∃ T, (tr kind ll).nds 0 = T := ⟨_, rfl⟩
      rw [eT] at BT ⊢
      clear hs hm hI  eT
      go_enter Try.func24, Try.ntmps24
      go_wp2_with fail
      refine VS.out.mono ?_
      rintro e w2 ⟨rfl, hb2⟩
      have HB2 := Lib.hid hb2
      have hs2 := hb2.size
      clear hb2
      go_wp2_with fail
      refine (KM.out _).mono ?_
      rintro e w3 ⟨rfl, rfl⟩
      go_wp2_with fail
      refine (BT.out _ HB2.out).mono ?_
      rintro e w4 ⟨g, c, rfl, ho, hb⟩
      have HF := Lib.hid (NewNodes.got ⟨g, c, rfl, ho, hb⟩ HB2.out)
      clear ho hb
      go_wp2_with fail
      go_ret
      exact HF.out
set_option maxHeartbeats 1000000 in
theorem implIsTreeOf (w : World) (lo hi lo0 hi0 : Nat) (a0 a : Option Addr) (cap0 cap : Nat) (kind : Int) (N : List Nd) (ll : List It) (hN : Nodes w lo0 hi0 a0 N) (hI : Items w lo hi a ll) (hc : Cap ll.length cap) :
    Calls Try.prog 10 #[.slice a0 N.length cap0, .slice a ll.length cap, .int .i64 kind] w fun e w' => e = .returned (.bool (isV kind ll N)) ∧ Below w.heap.size w w' := by
  cases hs : storeB ll
  · rw [isV_no1 hs]
    have VS := Lib.hid (implValidStore w lo hi a cap ll hI)
    rw [hs] at VS
    clear hs hI hN
    go_enter Try.func10, Try.ntmps10
    go_wp2_with fail
    refine VS.out.mono ?_
    rintro e w2 ⟨rfl, hb2⟩
    have HB2 := Lib.hid hb2
    clear hb2
    go_wp2_with fail
    go_ret
    exact ⟨rfl, HB2.out⟩
  · cases hm : metB kind
    · rw [isV_no2 hm]
      have VS := Lib.hid (implValidStore w lo hi a cap ll hI)
      have KM := Lib.hid (isTreeKind_any kind)
      rw [hs] at VS
      rw [hm] at KM
      clear hs hm hI hN
      go_enter Try.func10, Try.ntmps10
      go_wp2_with fail
      refine VS.out.mono ?_
      rintro e w2 ⟨rfl, hb2⟩
      have HB2 := Lib.hid hb2
      clear hb2
      go_wp2_with fail
      refine (KM.out _).mono ?_
      rintro e w3 ⟨rfl, rfl⟩
      go_wp2_with fail
      go_ret
      exact ⟨rfl, HB2.out⟩
    · rw [isV_yes hs hm]
      have VS := Lib.hid (implValidStore w lo hi a cap ll hI)
      have KM := Lib.hid (isTreeKind_any kind)
      have BT := Lib.hid fun w' (bl : Below w.heap.size w w') => buildTree_store w' lo hi a cap kind ll (hI.below bl) hc hs
      rw [hs] at VS
      rw [hm] at KM
      have HNN := Lib.hid hN
      obtain ⟨T, eT⟩ : ∃ T, (tr kind ll).nds 0 = T := ⟨_, rfl⟩
      rw [eT] at BT ⊢
      clear hs hm hI hN eT
      go_enter Try.func10, Try.ntmps10
      go_wp2_with fail
      refine VS.out.mono ?_
      rintro e w2 ⟨rfl, hb2⟩
      have HB2 := Lib.hid hb2
      have hs2 := hb2.size
      clear hb2
      go_wp2_with fail
      refine (KM.out _).mono ?_
      rintro e w3 ⟨rfl, rfl⟩
      go_wp2_with fail
      refine (BT.out _ HB2.out).mono ?_
      rintro e w4 ⟨g, c, rfl, ho, hb⟩
      obtain ⟨ta, tc, hv, hT, -⟩ := Nodes.of_own ho (by have hcc := owns_cap ho; have h1 := hcc.1; have h2 := hcc.2; omega)
      simp only [Value.slice.injEq] at hv
      obtain ⟨rfl, -, rfl⟩ := hv
      have HB4 := Lib.hid (HB2.out.trans (hb.mono hs2))
      have EQ := Lib.hid fun cc => equalN_any w4 _ _ _ _ a0 _ cap0 cc N T (HNN.out.below HB4.out) hT
      clear ho hb hT
      go_wp2_with fail
      refine (EQ.out _).mono ?_
      rintro e w5 ⟨rfl, hd⟩
      have HB5 := Lib.hid (HB4.out.trans hd.below)
      clear hd
      go_wp2_with fail
      go_ret
      exact ⟨rfl, HB5.out⟩
set_option maxHeartbeats 1000000 in
theorem specIsTreeOf (w : World) (lo hi lo0 hi0 : Nat) (a0 a : Option Addr) (cap0 cap : Nat) (kind : Int) (N : List Nd) (ll : List It) (hN : Nodes w lo0 hi0 a0 N) (hI : Items w lo hi a ll) (hc : Cap ll.length cap) :
    Calls Try.prog 11 #[.slice a0 N.length cap0, .slice a ll.length cap, .int .i64 kind] w fun e w' => e = .returned (.bool (isV kind ll N)) ∧ Below w.heap.size w w' := by
  cases hs : storeB ll
  · rw [isV_no1 hs]
    have VS := Lib.hid (specValidStoreIn w lo hi a cap ll hI)
    rw [hs] at VS
    clear hs hI hN
    go_enter Try.func11, Try.ntmps11
    go_wp2_with fail
    refine VS.out.mono ?_
    rintro e w2 ⟨rfl, hb2⟩
    have HB2 := Lib.hid hb2
    clear hb2
    go_wp2_with fail
    go_ret
    exact ⟨rfl, HB2.out⟩
  · cases hm : metB kind
    · rw [isV_no2 hm]
      have VS := Lib.hid (specValidStoreIn w lo hi a cap ll hI)
      have KM := Lib.hid (isMetric_any kind)
      rw [hs] at VS
      rw [hm] at KM
      clear hs hm hI hN
      go_enter Try.func11, Try.ntmps11
      go_wp2_with fail
      refine VS.out.mono ?_
      rintro e w2 ⟨rfl, hb2⟩
      have HB2 := Lib.hid hb2
      clear hb2
      go_wp2_with fail
      refine (KM.out _).mono ?_
      rintro e w3 ⟨rfl, rfl⟩
      go_wp2_with fail
      go_ret
      exact ⟨rfl, HB2.out⟩
    · rw [isV_yes hs hm]
      have VS := Lib.hid (specValidStoreIn w lo hi a cap ll hI)
      have KM := Lib.hid (isMetric_any kind)
      have BT := Lib.hid fun w' (bl : Below w.heap.size w w') => grow_store w' lo hi a cap kind ll (hI.below bl) hc hs
      rw [hs] at VS
      rw [hm] at KM
      have HNN := Lib.hid hN
      obtain ⟨T, eT⟩ : ∃ T, (tr kind ll).nds 0 = T := ⟨_, rfl⟩
      rw [eT] at BT ⊢
      clear hs hm hI hN eT
      go_enter Try.func11, Try.ntmps11
      go_wp2_with fail
      refine VS.out.mono ?_
      rintro e w2 ⟨rfl, hb2⟩
      have HB2 := Lib.hid hb2
      have hs2 := hb2.size
      clear hb2
      go_wp2_with fail
      refine (KM.out _).mono ?_
      rintro e w3 ⟨rfl, rfl⟩
      go_wp2_with fail
      refine (BT.out _ HB2.out).mono ?_
      rintro e w4 ⟨g, c, rfl, ho, hb⟩
      obtain ⟨ta, tc, hv, hT, -⟩ := Nodes.of_own ho (by have hcc := owns_cap ho; have h1 := hcc.1; have h2 := hcc.2; omega)
      simp only [Value.slice.injEq] at hv
      obtain ⟨rfl, -, rfl⟩ := hv
      have HB4 := Lib.hid (HB2.out.trans (hb.mono hs2))
      have EQ := Lib.hid fun cc => sameNodes_any w4 _ _ _ _ a0 _ cap0 cc N T (HNN.out.below HB4.out) hT
      clear ho hb hT
      go_wp2_with fail
      refine (EQ.out _).mono ?_
      rintro e w5 ⟨rfl, hd⟩
      have HB5 := Lib.hid (HB4.out.trans hd.below)
      clear hd
      go_wp2_with fail
      go_ret
      exact ⟨rfl, HB5.out⟩
end Go.Proofs.Ytlammenejgagdaa
