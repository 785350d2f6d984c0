/-
  The walks of the reference's TreeNearest and TreeVisits, and of the program's TreeNearest.
-/
import Derived.Test.YtlammenejgagdaaTreeSearch
namespace Go.Proofs.Ytlammenejgagdaa
open Go.RowKit
set_option linter.unusedVariables false

/-- the arguments of a search in a tree are valid -/
def treeB (ll : List It) (kind : Int) (q : List Int) (k : Int) : Bool := findB ll kind q k && metB kind
theorem treeB_find {ll : List It} {kind : Int} {q : List Int} {k : Int} (h : treeB ll kind q k = true) : findB ll kind q k = true := by
  unfold treeB at h
  simp only [Bool.and_eq_true] at h
  exact h.1
theorem treeB_ne {ll : List It} {kind : Int} {q : List Int} {k : Int} (h : treeB ll kind q k = true) : kind ≠ 3 := by
  unfold treeB metB at h
  simp only [Bool.and_eq_true, bne_iff_ne] at h
  exact h.2.2
theorem treeB_mk {ll : List It} {kind : Int} {q : List Int} {k : Int} (h1 : qryB ll kind q = true) (h2 : metB kind = true) (h3 : 1 ≤ k ∧ k ≤ 16) : treeB ll kind q k = true := by
  unfold treeB
  rw [findB_mk h1 h3, h2]
  rfl
theorem treeB_no1 {ll : List It} {kind : Int} {q : List Int} {k : Int} (h1 : qryB ll kind q = false) : treeB ll kind q k = false := by
  cases h : treeB ll kind q k
  · rfl
  · rw [findB_qry (treeB_find h)] at h1
    cases h1
theorem treeB_no2 {ll : List It} {kind : Int} {q : List Int} {k : Int} (h1 : metB kind = false) : treeB ll kind q k = false := by
  unfold treeB
  rw [h1, Bool.and_false]
theorem treeB_no3 {ll : List It} {kind : Int} {q : List Int} {k : Int} (h1 : ¬ (1 ≤ k ∧ k ≤ 16)) : treeB ll kind q k = false := by
  cases h : treeB ll kind q k
  · rfl
  · exact absurd (findB_num (treeB_find h)) h1
/-- what TreeNearest answers -/
def tnV (kind : Int) (q : List Int) (ll : List It) (k : Int) : List Ht := if treeB ll kind q k then nrI kind q ll k.toNat else []
theorem tnV_yes {kind : Int} {q : List Int} {ll : List It} {k : Int} (h : treeB ll kind q k = true) : tnV kind q ll k = nrI kind q ll k.toNat := by unfold tnV; rw [h]; rfl
theorem tnV_no {kind : Int} {q : List Int} {ll : List It} {k : Int} (h : treeB ll kind q k = false) : tnV kind q ll k = [] := by unfold tnV; rw [h]; rfl
theorem tnV_near {kind : Int} {q : List Int} {ll : List It} {k : Int} (h3 : kind ≠ 3) : tnV kind q ll k = nrV kind q ll k := by
  cases hf : findB ll kind q k
  · rw [nrV_no hf, tnV_no (by unfold treeB; rw [hf]; rfl)]
  · have hk := qryB_kind (findB_qry hf)
    have hm : metB kind = true := by
      unfold metB kndB
      rw [inR_true hk]
      simpa using h3
    rw [nrV_yes hf, tnV_yes (by unfold treeB; rw [hf, hm]; rfl)]
/-- what TreeVisits answers -/
def tvV (kind : Int) (q : List Int) (ll : List It) (k : Int) : Int := if treeB ll kind q k then (((tr kind ll).vis kind q k.toNat []).2 : Int) else -1
theorem tvV_yes {kind : Int} {q : List Int} {ll : List It} {k : Int} (h : treeB ll kind q k = true) : tvV kind q ll k = (((tr kind ll).vis kind q k.toNat []).2 : Int) := by unfold tvV; rw [h]; rfl
theorem tvV_no {kind : Int} {q : List Int} {ll : List It} {k : Int} (h : treeB ll kind q k = false) : tvV kind q ll k = -1 := by unfold tvV; rw [h]; rfl
set_option maxHeartbeats 2000000 in
theorem specTreeVisits (w : World) (lo hi lo' hi' : Nat) (a b : Option Addr) (cap capm : Nat) (kind k : Int) (ll : List It) (q : List Int) (hI : Items w lo hi a ll) (hB : Ints w lo' hi' b q) (hc : Cap ll.length cap) :
    Calls Try.prog 21 #[.slice a ll.length cap, .int .i64 kind, .slice b q.length capm, .int .i64 k] w fun e w' => e = .returned (.int .i64 (tvV kind q ll k)) ∧ Below w.heap.size w w' := by
  cases hq : qryB ll kind q
  · rw [tvV_no (treeB_no1 hq)]
    have VQ := Lib.hid (validQuery_any w lo hi lo' hi' a b cap capm kind ll q hI hB)
    rw [hq] at VQ
    clear hq hI hB
    go_enter Try.func21, Try.ntmps21
    go_wp2_with fail
    refine VQ.out.mono ?_
    rintro e w2 ⟨rfl, hb2⟩
    have HB2 := Lib.hid hb2
    clear hb2
    go_wp2_with fail
    go_ret
    exact ⟨rfl, HB2.out⟩
  · cases hm : metB kind
    · rw [tvV_no (treeB_no2 hm)]
      have VQ := Lib.hid (validQuery_any w lo hi lo' hi' a b cap capm kind ll q hI hB)
      have IM := Lib.hid (isMetric_any kind)
      rw [hq] at VQ
      rw [hm] at IM
      clear hq hI hB hm
      go_enter Try.func21, Try.ntmps21
      go_wp2_with fail
      refine VQ.out.mono ?_
      rintro e w2 ⟨rfl, hb2⟩
      have HB2 := Lib.hid hb2
      clear hb2
      go_wp2_with fail
      refine (IM.out _).mono ?_
      rintro e w3 ⟨rfl, rfl⟩
      go_wp2_with fail
      go_ret
      exact ⟨rfl, HB2.out⟩
    · cases hr : inR k 1 16
      · rw [tvV_no (treeB_no3 (by intro h; rw [show inR k 1 16 = true from by unfold inR; simp; omega] at hr; cases hr))]
        have VQ := Lib.hid (validQuery_any w lo hi lo' hi' a b cap capm kind ll q hI hB)
        have IM := Lib.hid (isMetric_any kind)
        have IR := Lib.hid (inRange_any k 1 16)
        rw [hq] at VQ
        rw [hm] at IM
        rw [hr] at IR
        clear hq hI hB hm hr
        go_enter Try.func21, Try.ntmps21
        go_wp2_with fail
        refine VQ.out.mono ?_
        rintro e w2 ⟨rfl, hb2⟩
        have HB2 := Lib.hid hb2
        clear hb2
        go_wp2_with fail
        refine (IM.out _).mono ?_
        rintro e w3 ⟨rfl, rfl⟩
        go_wp2_with fail
        refine (IR.out _).mono ?_
        rintro e w3 ⟨rfl, rfl⟩
        go_wp2_with fail
        go_ret
        exact ⟨rfl, HB2.out⟩
      · have hk : 1 ≤ k ∧ k ≤ 16 := by unfold inR at hr; simp at hr; omega
        have htb := treeB_mk hq hm hk
        rw [tvV_yes htb]
        obtain ⟨n, rfl⟩ : ∃ n : Nat, k = (n : Int) := ⟨k.toNat, by omega⟩
        rw [Int.toNat_natCast]
        have hst := qryB_store hq
        have hvq := qryB_vec hq
        have h3 := treeB_ne htb
        have VQ := Lib.hid (validQuery_any w lo hi lo' hi' a b cap capm kind ll q hI hB)
        have IM := Lib.hid (isMetric_any kind)
        have IR := Lib.hid (inRange_any (n : Int) 1 16)
        rw [hq] at VQ
        rw [hm] at IM
        rw [hr] at IR
        have SE := Lib.hid fun w' (bl : Below w.heap.size w w') => search_any w' _ _ _ _ a b cap capm n kind ll q (hI.below bl) (hB.below bl) hc hst hvq (by omega)
        have HNR := Lib.hid (search_near h3 (vecB_coords hvq) (show 1 ≤ n by omega) hst)
        have HLN := Lib.hid (Tr.vis_len kind q n (tr kind ll) [] (Nat.zero_le _))
        obtain ⟨⟨h, s⟩, eh⟩ : ∃ p, (tr kind ll).vis kind q n [] = p := ⟨_, rfl⟩
        rw [eh] at SE HNR HLN
        dsimp only at SE HNR HLN
        have HEH := Lib.hid eh
        clear hq hI hB hm hr htb hst hvq h3 eh
        go_enter Try.func21, Try.ntmps21
        go_wp2_with fail
        refine VQ.out.mono ?_
        rintro e w2 ⟨rfl, hb2⟩
        have HB2 := Lib.hid hb2
        have hs2 := hb2.size
        clear hb2
        go_wp2_with fail
        refine (IM.out _).mono ?_
        rintro e w3 ⟨rfl, rfl⟩
        go_wp2_with fail
        refine (IR.out _).mono ?_
        rintro e w3 ⟨rfl, rfl⟩
        go_wp2_with fail
        refine (SE.out _ HB2.out).mono ?_
        rintro e w4 ⟨P, hc4, k4, nv, lv, av, kd, ha, rfl, q1, q2, q3, q4⟩
        have c6 := q1.c6
        have HB4 := Lib.hid (HB2.out.trans (q4.mono hs2))
        clear q1 q2 q3 q4
        go_wp2_with fail
        go_ret
        rw [HEH.out]
        exact ⟨rfl, HB4.out⟩
set_option maxHeartbeats 2000000 in
theorem specTreeNearest (w : World) (lo hi lo' hi' : Nat) (a b : Option Addr) (cap capm : Nat) (kind k : Int) (ll : List It) (q : List Int) (hI : Items w lo hi a ll) (hB : Ints w lo' hi' b q) (hc : Cap ll.length cap) :
    Calls Try.prog 17 #[.slice a ll.length cap, .int .i64 kind, .slice b q.length capm, .int .i64 k] w (NewHits w (tnV kind q ll k)) := by
  cases hq : qryB ll kind q
  · rw [tnV_no (treeB_no1 hq)]
    have VQ := Lib.hid (validQuery_any w lo hi lo' hi' a b cap capm kind ll q hI hB)
    rw [hq] at VQ
    clear hq hI hB
    go_enter Try.func17, Try.ntmps17
    go_wp2_with fail
    refine VQ.out.mono ?_
    rintro e w2 ⟨rfl, hb2⟩
    have HB2 := Lib.hid hb2
    clear hb2
    go_wp2_with fail
    go_ret
    exact NewHits.nil HB2.out
  · cases hm : metB kind
    · rw [tnV_no (treeB_no2 hm)]
      have VQ := Lib.hid (validQuery_any w lo hi lo' hi' a b cap capm kind ll q hI hB)
      have IM := Lib.hid (isMetric_any kind)
      rw [hq] at VQ
      rw [hm] at IM
      clear hq hI hB hm
      go_enter Try.func17, Try.ntmps17
      go_wp2_with fail
      refine VQ.out.mono ?_
      rintro e w2 ⟨rfl, hb2⟩
      have HB2 := Lib.hid hb2
      clear hb2
      go_wp2_with fail
      refine (IM.out _).mono ?_
      rintro e w3 ⟨rfl, rfl⟩
      go_wp2_with fail
      go_ret
      exact NewHits.nil HB2.out
    · cases hr : inR k 1 16
      · rw [tnV_no (treeB_no3 (by intro h; rw [show inR k 1 16 = true from by unfold inR; simp; omega] at hr; cases hr))]
        have VQ := Lib.hid (validQuery_any w lo hi lo' hi' a b cap capm kind ll q hI hB)
        have IM := Lib.hid (isMetric_any kind)
        have IR := Lib.hid (inRange_any k 1 16)
        rw [hq] at VQ
        rw [hm] at IM
        rw [hr] at IR
        clear hq hI hB hm hr
        go_enter Try.func17, Try.ntmps17
        go_wp2_with fail
        refine VQ.out.mono ?_
        rintro e w2 ⟨rfl, hb2⟩
        have HB2 := Lib.hid hb2
        clear hb2
        go_wp2_with fail
        refine (IM.out _).mono ?_
        rintro e w3 ⟨rfl, rfl⟩
        go_wp2_with fail
        refine (IR.out _).mono ?_
        rintro e w3 ⟨rfl, rfl⟩
        go_wp2_with fail
        go_ret
        exact NewHits.nil HB2.out
      · have hk : 1 ≤ k ∧ k ≤ 16 := by unfold inR at hr; simp at hr; omega
        have htb := treeB_mk hq hm hk
        rw [tnV_yes htb]
        obtain ⟨n, rfl⟩ : ∃ n : Nat, k = (n : Int) := ⟨k.toNat, by omega⟩
        rw [Int.toNat_natCast]
        have hst := qryB_store hq
        have hvq := qryB_vec hq
        have h3 := treeB_ne htb
        have VQ := Lib.hid (validQuery_any w lo hi lo' hi' a b cap capm kind ll q hI hB)
        have IM := Lib.hid (isMetric_any kind)
        have IR := Lib.hid (inRange_any (n : Int) 1 16)
        rw [hq] at VQ
        rw [hm] at IM
        rw [hr] at IR
        have SE := Lib.hid fun w' (bl : Below w.heap.size w w') => search_any w' _ _ _ _ a b cap capm n kind ll q (hI.below bl) (hB.below bl) hc hst hvq (by omega)
        have HNR := Lib.hid (search_near h3 (vecB_coords hvq) (show 1 ≤ n by omega) hst)
        have HLN := Lib.hid (Tr.vis_len kind q n (tr kind ll) [] (Nat.zero_le _))
        obtain ⟨⟨h, s⟩, eh⟩ : ∃ p, (tr kind ll).vis kind q n [] = p := ⟨_, rfl⟩
        rw [eh] at SE HNR HLN
        dsimp only at SE HNR HLN
        have HEH := Lib.hid eh
        clear hq hI hB hm hr htb hst hvq h3 eh
        go_enter Try.func17, Try.ntmps17
        go_wp2_with fail
        refine VQ.out.mono ?_
        rintro e w2 ⟨rfl, hb2⟩
        have HB2 := Lib.hid hb2
        have hs2 := hb2.size
        clear hb2
        go_wp2_with fail
        refine (IM.out _).mono ?_
        rintro e w3 ⟨rfl, rfl⟩
        go_wp2_with fail
        refine (IR.out _).mono ?_
        rintro e w3 ⟨rfl, rfl⟩
        go_wp2_with fail
        have HBA := Lib.hid (HB2.out.alloc hs2 (.cells #[] 52))
        have HO := Lib.hid (owns_empty w2 w.heap.size 52 2 hs2)
        refine (SE.out _ HBA.out).mono ?_
        rintro e w4 ⟨P, hc4, k4, nv, lv, av, kd, ha, rfl, q1, q2, q3, q4⟩
        have c5 := q1.c5
        have HB4 := Lib.hid (HBA.out.trans (q4.mono HBA.out.size))
        have HO4 := Lib.hid (owns_upd HO.out (Upd.of_below (lo := 0) (hi := 0) q4) (by omega))
        have hs4 := HB4.out.size
        by_cases hn : h = []
        · subst hn
          obtain ⟨rfl, rfl⟩ := q3 rfl
          clear q1 q2 q3 q4
          obtain ⟨i, hi4, hz, hi1, hi2⟩ := info_parts infoHit
          go_wp2_with (at_builtin; refine wpList_append_own_none rfl _ _ 34 rfl w.heap.size 52 i 2 Try.underlying34 hi4 (.slice (some ⟨w2.heap.size, 0, none⟩) 0 0) 0 [] rfl HO4.out rfl ?_)
          go_ret
          rw [← HNR.out]
          exact NewHits.mk HO4.out (by omega) HB4.out
        · obtain ⟨p, off, rfl, _⟩ := q2.cells hn
          have HV := Lib.hid q2.vals
          have HLh : Hid ((flatH h).length = h.length * 2) := Lib.hid (flatH_length h)
          have hln := HLN.out
          clear q1 q2 q3 q4 hn
          go_wp2_with (at_builtin; refine appendN rfl _ _ 34 rfl w.heap.size 52 Try.underlying34 infoHit rfl (by omega) (by omega) (.slice (some ⟨w2.heap.size, 0, none⟩) 0 0) 0 [] rfl HO4.out ⟨p, off, none⟩ h.length hc4 (flatH h) rfl HLh.out HV.out (flatH_cells _) (by omega) hs4 ?_; intro v' w6 hown6 hg6; have HO6 := Lib.hid hown6; have HG6 := Lib.hid hg6; clear hown6 hg6)
          go_ret
          have ho6 := HO6.out
          rw [List.nil_append] at ho6
          rw [← HNR.out]
          exact NewHits.mk ho6 (by omega) (HB4.out.grown HG6.out hs4 (owns_block HO4.out))
set_option maxHeartbeats 2000000 in
theorem implTreeNearest (w : World) (lo hi lo' hi' : Nat) (a b : Option Addr) (cap capm : Nat) (kind k : Int) (ll : List It) (q : List Int) (hI : Items w lo hi a ll) (hB : Ints w lo' hi' b q) :
    Calls Try.prog 15 #[.slice a ll.length cap, .int .i64 kind, .slice b q.length capm, .int .i64 k] w (NewHits w (tnV kind q ll k)) := by
  have CF := Lib.hid (canFind_any w lo hi lo' hi' a b cap capm kind k ll q hI hB)
  have IT := Lib.hid (isTreeKind_any kind)
  cases hf : findB ll kind q k
  · rw [tnV_no (by unfold treeB; rw [hf]; rfl)]
    rw [hf] at CF
    go_enter Try.func15, Try.ntmps15
    go_wp2_with fail
    refine CF.out.mono ?_
    rintro e w2 ⟨rfl, hb2⟩
    have HB := Lib.hid hb2
    clear hb2
    go_wp2_with fail
    go_ret
    exact NewHits.nil HB.out
  · cases hm : metB kind
    · rw [tnV_no (treeB_no2 hm)]
      rw [hf] at CF
      rw [hm] at IT
      go_enter Try.func15, Try.ntmps15
      go_wp2_with fail
      refine CF.out.mono ?_
      rintro e w2 ⟨rfl, hb2⟩
      have HB := Lib.hid hb2
      clear hb2
      go_wp2_with fail
      refine (IT.out _).mono ?_
      rintro e w3 ⟨rfl, rfl⟩
      go_wp2_with fail
      go_ret
      exact NewHits.nil HB.out
    · rw [tnV_yes (by unfold treeB; rw [hf, hm]; rfl)]
      rw [hf] at CF
      rw [hm] at IT
      have hk := findB_num hf
      obtain ⟨n, rfl⟩ : ∃ n : Nat, k = (n : Int) := ⟨k.toNat, by omega⟩
      rw [Int.toNat_natCast]
      have hs := qryB_store (findB_qry hf)
      have NI := Lib.hid fun w2 (hb : Below w.heap.size w w2) => implNearest_in w2 lo hi lo' hi' a b cap capm n kind ll q (hI.below hb) (hB.below hb) (fun j hj => storeB_vec hs hj) (qryB_vec (findB_qry hf)) (by have := storeB_len hs; omega) (by omega) (storeB_AscI hs).nodup
      clear hs hk hf hm
      go_enter Try.func15, Try.ntmps15
      go_wp2_with fail
      refine CF.out.mono ?_
      rintro e w2 ⟨rfl, hb2⟩
      have HB := Lib.hid hb2
      clear hb2
      go_wp2_with fail
      refine (IT.out _).mono ?_
      rintro e w3 ⟨rfl, rfl⟩
      go_wp2_with fail
      refine (NI.out _ HB.out).mono ?_
      rintro e w3 ⟨a3, c3, rfl, hh⟩
      have HH := Lib.hid hh
      clear hh
      go_wp2_with fail
      go_ret
      exact NewHits.later ⟨a3, c3, rfl, HH.out⟩ HB.out
end Go.Proofs.Ytlammenejgagdaa
