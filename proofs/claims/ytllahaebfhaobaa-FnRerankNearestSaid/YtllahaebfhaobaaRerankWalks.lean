/-
  RerankNearest, the program's and the reference's.
-/
import Derived.Test.YtllahaebfhaobaaCodeSpec
import Derived.Test.YtllahaebfhaobaaIndexWalks
import Derived.Test.YtllahaebfhaobaaItemsRead
namespace Go.Proofs.Ytllahaebfhaobaa
open Go.RowKit
set_option linter.unusedVariables false

/-- what ranking again asks of its arguments -/
def rkB (L R : List (List Int)) (ll : List It) (m : List Int) (n k : Int) : Bool := cnB L R ll m k && inR n 1 16
theorem rkB_cn {L R : List (List Int)} {ll : List It} {m : List Int} {n k : Int} (h : rkB L R ll m n k = true) : cnB L R ll m k = true := by
  unfold rkB at h; simp only [Bool.and_eq_true] at h; exact h.1
theorem rkB_num {L R : List (List Int)} {ll : List It} {m : List Int} {n k : Int} (h : rkB L R ll m n k = true) : 1 ≤ n ∧ n ≤ 16 := by
  unfold rkB inR at h; simp only [Bool.and_eq_true, decide_eq_true_eq] at h; exact h.2
theorem rkB_mk {L R : List (List Int)} {ll : List It} {m : List Int} {n k : Int} (h1 : cnB L R ll m k = true) (h2 : 1 ≤ n ∧ n ≤ 16) : rkB L R ll m n k = true := by
  unfold rkB; rw [h1, inR_true h2]; rfl
/-- what RerankNearest answers -/
def rkV (L R : List (List Int)) (ll : List It) (m : List Int) (n k : Int) : List Ht := if rkB L R ll m n k then nrI 3 m (rrI L R m ll n.toNat) k.toNat else []
theorem rkV_yes {L R : List (List Int)} {ll : List It} {m : List Int} {n k : Int} (h : rkB L R ll m n k = true) : rkV L R ll m n k = nrI 3 m (rrI L R m ll n.toNat) k.toNat := by unfold rkV; rw [h]; rfl
theorem rkV_no {L R : List (List Int)} {ll : List It} {m : List Int} {n k : Int} (h : rkB L R ll m n k = false) : rkV L R ll m n k = [] := by unfold rkV; rw [h]; rfl
theorem rkV_len (L R : List (List Int)) (ll : List It) (m : List Int) (n k : Int) : (rkV L R ll m n k).length ≤ 1048576 := by
  cases h : rkB L R ll m n k
  · rw [rkV_no h]; simp
  · rw [rkV_yes h, nrI_length, rrI_length]
    have := storeB_len (qryB_store (findB_qry (cnB_find (rkB_cn h))))
    omega
theorem HitsO.grown {w w' : World} {lo hi base size n : Nat} {xs : List Value} {v : Value} {a : Option Addr} {l : List Ht} {t : TypeId} (h : HitsO w lo hi a l) (hown : w.ownsRow base t size v n xs) (ht : t ≠ 58) (hg : w.grownBy w' v.ownBlock) : HitsO w' lo hi a l := by
  have hne : ∀ b off, l ≠ [] → a = some ⟨b, off, none⟩ → some b ≠ v.ownBlock := fun b off hl ha e => by
    obtain ⟨c, hc⟩ := h.2 hl b off ha
    rcases hown.2 with ⟨rfl, _⟩ | ⟨g, cap, cur, rfl, _, hgg, _⟩
    · simp [Value.ownBlock] at e
    · simp only [Value.ownBlock, Option.some.injEq] at e
      subst e
      rw [hgg] at hc
      simp only [Option.some.injEq, Obj.cells.injEq] at hc
      exact ht hc.2.1
  refine ⟨⟨fun hl => ?_, h.1.len⟩, fun hl b off ha => ?_⟩
  · obtain ⟨b, off, ha, q1, q2, q3⟩ := h.1.cells hl
    exact ⟨b, off, ha, q1, q2, fun i hi' => ⟨hg.cell (q3 i hi').1 (hne b off hl ha), hg.cell (q3 i hi').2 (hne b off hl ha)⟩⟩
  · obtain ⟨c, hc⟩ := h.2 hl b off ha
    exact ⟨c, by rw [hg.block b (Array.getElem?_eq_some_iff.1 hc).1 (hne b off hl ha)]; exact hc⟩
set_option maxHeartbeats 1000000 in
theorem implRK_no (w : World) (lo hi l2 h2 l3 h3 : Nat) (a b q p : Option Addr) (cap cap' capq capp : Nat) (n k : Int) (L R : List (List Int)) (ll : List It) (m : List Int) (hS : Sides w lo hi a b L R) (hI : Items w l2 h2 q ll) (hM : Ints w l3 h3 p m) (hr : rkB L R ll m n k = false) :
    Calls Try.prog 29 #[.agg #[.slice a L.length cap, .slice b R.length cap'], .slice q ll.length capq, .slice p m.length capp, .int .i64 n, .int .i64 k] w (NewHits w []) := by
  have hB0 := below_alloc w (.cells #[.slice a L.length cap, .slice b R.length cap'] 25)
  have K := cells2_new w (.slice a L.length cap) (.slice b R.length cap') 25
  obtain ⟨W0, hW0⟩ : ∃ W0, w.alloc (.cells #[.slice a L.length cap, .slice b R.length cap'] 25) = W0 := ⟨_, rfl⟩
  rw [hW0] at hB0 K
  replace hS := hS.below hB0
  replace hI := hI.below hB0
  replace hM := hM.below hB0
  have HB0 := Lib.hid hB0
  have hs0 := hB0.size
  obtain ⟨k0, k1⟩ := K
  have IB := Lib.hid (isBook_any W0 _ _ _ _ cap cap' L R hS)
  cases hv : bookB L R
  · rw [hv] at IB
    go_enter Try.func29, Try.ntmps29
    go_wp2_with fail
    refine IB.out.mono ?_
    rintro e w2 ⟨rfl, hb2⟩
    have HB2 : Hid (Below w.heap.size w w2) := Lib.hid (HB0.out.trans (hb2.mono hs0))
    clear hb2
    go_wp2_with fail
    go_ret
    exact NewHits.nil HB2.out
  · rw [hv] at IB
    have CF := Lib.hid fun w2 (hb : Below W0.heap.size W0 w2) => canFind_any w2 _ _ _ _ q p capq capp 3 k ll m (hI.below hb) (hM.below hb)
    cases hf : findB ll 3 m k
    · rw [hf] at CF
      go_enter Try.func29, Try.ntmps29
      go_wp2_with fail
      refine IB.out.mono ?_
      rintro e w2 ⟨rfl, hb2⟩
      have HB2 := Lib.hid hb2
      clear hb2
      go_wp2_with fail
      refine (CF.out w2 HB2.out).mono ?_
      rintro e w3 ⟨rfl, hb3⟩
      have HB3 : Hid (Below w.heap.size w w3) := Lib.hid (HB0.out.trans ((HB2.out.trans (hb3.mono HB2.out.size)).mono hs0))
      clear hb3
      go_wp2_with fail
      go_ret
      exact NewHits.nil HB3.out
    · rw [hf] at CF
      have hn : ¬ (1 ≤ n ∧ n ≤ 16) := fun hn => by rw [rkB_mk (cnB_mk hv hf) hn] at hr; cases hr
      by_cases h1 : n < 1
      · go_enter Try.func29, Try.ntmps29
        go_wp2_with fail
        refine IB.out.mono ?_
        rintro e w2 ⟨rfl, hb2⟩
        have HB2 := Lib.hid hb2
        clear hb2
        go_wp2_with fail
        refine (CF.out w2 HB2.out).mono ?_
        rintro e w3 ⟨rfl, hb3⟩
        have HB3 : Hid (Below w.heap.size w w3) := Lib.hid (HB0.out.trans ((HB2.out.trans (hb3.mono HB2.out.size)).mono hs0))
        clear hb3
        go_wp2_with fail
        go_ret
        exact NewHits.nil HB3.out
      · have d1 : decide (n < 1) = false := decide_eq_false h1
        have d2 : decide (16 < n) = true := decide_eq_true (by omega)
        clear hn h1
        go_enter Try.func29, Try.ntmps29
        go_wp2_with fail
        refine IB.out.mono ?_
        rintro e w2 ⟨rfl, hb2⟩
        have HB2 := Lib.hid hb2
        clear hb2
        go_wp2_with fail
        refine (CF.out w2 HB2.out).mono ?_
        rintro e w3 ⟨rfl, hb3⟩
        have HB3 : Hid (Below w.heap.size w w3) := Lib.hid (HB0.out.trans ((HB2.out.trans (hb3.mono HB2.out.size)).mono hs0))
        clear hb3
        go_wp2_with fail
        go_ret
        exact NewHits.nil HB3.out
set_option maxHeartbeats 2000000 in
theorem implRK_yes (w : World) (lo hi l2 h2 l3 h3 : Nat) (a b q p : Option Addr) (cap cap' capq capp n k : Nat) (L R : List (List Int)) (ll : List It) (m : List Int) (hS : Sides w lo hi a b L R) (hI : Items w l2 h2 q ll) (hM : Ints w l3 h3 p m) (hr : rkB L R ll m (n : Int) (k : Int) = true) :
    Calls Try.prog 29 #[.agg #[.slice a L.length cap, .slice b R.length cap'], .slice q ll.length capq, .slice p m.length capp, .int .i64 (n : Int), .int .i64 (k : Int)] w (NewHits w (nrI 3 m (rrI L R m ll n) k)) := by
  have hc := rkB_cn hr
  have hn := rkB_num hr
  have hv := cnB_book hc
  have hf := cnB_find hc
  have hq := findB_qry hf
  have hk := findB_num hf
  have hs := qryB_store hq
  have hl16 := storeB_len hs
  have hk16 : k ≤ 16 := by omega
  have hn16 : n ≤ 16 := by omega
  have hB0 := below_alloc w (.cells #[.slice a L.length cap, .slice b R.length cap'] 25)
  have K := cells2_new w (.slice a L.length cap) (.slice b R.length cap') 25
  obtain ⟨W0, hW0⟩ : ∃ W0, w.alloc (.cells #[.slice a L.length cap, .slice b R.length cap'] 25) = W0 := ⟨_, rfl⟩
  rw [hW0] at hB0 K
  have HSIM := Lib.hid (And.intro (hS.below hB0) (And.intro (hI.below hB0) (hM.below hB0)))
  have HB0 := Lib.hid hB0
  have hs0 := hB0.size
  have HK := Lib.hid K
  obtain ⟨k0, k1⟩ := K
  have IB := Lib.hid (isBook_any W0 _ _ _ _ cap cap' L R HSIM.out.1)
  rw [hv] at IB
  have CF := Lib.hid fun w2 (hb : Below W0.heap.size W0 w2) => canFind_any w2 _ _ _ _ q p capq capp 3 (k : Int) ll m (HSIM.out.2.1.below hb) (HSIM.out.2.2.below hb)
  rw [hf] at CF
  have CN := Lib.hid fun w2 (hb : Below W0.heap.size W0 w2) => codeNearest_in w2 _ _ _ _ _ _ a b q p cap cap' capq capp n L R ll m (HSIM.out.1.below hb) (HSIM.out.2.1.below hb) (HSIM.out.2.2.below hb) hv hs (qryB_vec hq) (by omega)
  have HND := Lib.hid (storeB_AscI hs).nodup
  have HGET := Lib.hid fun i => rrI_get (L := L) (R := R) (m := m) (n := n) (i := i) (storeB_AscI hs).nodup
  have HRL : Hid ((rrI L R m ll n).length = (cdN L R m ll n).length) := Lib.hid (by unfold rrI; rw [List.length_map])
  have HTK := Lib.hid fun i => rrI_take_succ (L := L) (R := R) (m := m) (ll := ll) (n := n) (i := i)
  have hdl : (cdN L R m ll n).length ≤ 16 := by rw [cdN_length]; omega
  have NI := Lib.hid fun (w2 : World) a4 c4 (hb : Below W0.heap.size W0 w2) (hi4 : Items w2 0 w2.heap.size a4 (rrI L R m ll n)) => implNearest_in w2 _ _ _ _ a4 p c4 capp k 3 _ m hi4 (HSIM.out.2.2.below hb) (rrI_vec hs) (qryB_vec hq) (by rw [HRL.out]; omega) (by omega) (rrI_nodup (storeB_AscI hs).nodup)
  obtain ⟨D, eD⟩ : ∃ D, cdN L R m ll n = D := ⟨_, rfl⟩
  obtain ⟨S, eS⟩ : ∃ S, rrI L R m ll n = S := ⟨_, rfl⟩
  rw [eD] at CN HGET HRL hdl
  rw [eS] at HGET HRL HTK NI ⊢
  have d1 : decide ((n : Int) < 1) = false := decide_eq_false (by omega)
  have d2 : decide ((16 : Int) < (n : Int)) = false := decide_eq_false (by omega)
  clear hr hc hv hf hq hs hS hI hM eD eS hB0 hn hk
  go_enter Try.func29, Try.ntmps29
  go_wp2_with fail
  refine IB.out.mono ?_
  rintro e w2 ⟨rfl, hb2⟩
  have HB2 := Lib.hid hb2
  clear hb2
  go_wp2_with fail
  refine (CF.out w2 HB2.out).mono ?_
  rintro e w3 ⟨rfl, hb3⟩
  have HB3 : Hid (Below W0.heap.size W0 w3) := Lib.hid (HB2.out.trans (hb3.mono HB2.out.size))
  have hs3 := HB3.out.size
  clear hb3 k0 k1
  have HA3 := Lib.hid (below_alloc w3 (.cells #[] 34))
  have HE := Lib.hid (owns_empty w3 W0.heap.size 34 3 hs3)
  have hsz3 : (w3.alloc (.cells #[] 34)).heap.size = w3.heap.size + 1 := by simp
  have k0 := cell_later (HB3.out.trans (HA3.out.mono hs3)) HK.out.1
  have k1 := cell_later (HB3.out.trans (HA3.out.mono hs3)) HK.out.2
  go_wp2_with fail
  have HX3 : Hid (Below W0.heap.size W0 (w3.alloc (.cells #[] 34))) := Lib.hid (HB3.out.trans (HA3.out.mono hs3))
  refine (CN.out _ HX3.out).mono ?_
  rintro e w1 ⟨g, gc, rfl, hg, hgc, hb1⟩
  have HB1 : Hid (Below W0.heap.size W0 w1) := Lib.hid (HX3.out.trans (hb1.mono HX3.out.size))
  have hs1 := HB1.out.size
  have HG := Lib.hid (hg.wide (Nat.zero_le _) (Nat.le_refl _))
  have HOE : Hid (w1.ownsRow W0.heap.size 34 3 (.slice (some ⟨w3.heap.size, 0, none⟩) 0 0) 0 []) := Lib.hid (owns_upd HE.out (Upd.of_below (lo := 0) (hi := 0) hb1) (by omega))
  have HIA := Lib.hid (HSIM.out.2.1.all)
  have hgc1 := hgc.1
  have hgc2 := hgc.2
  clear hg hgc hb1 k0 k1 hW0
  go_wp2_with fail
  go_loopw [11, 39] (fun v i wr => ∃ (j : Nat) (vs : List Value), j ≤ D.length ∧ i = .int .i64 (j : Int) ∧ Hid (wr.ownsRow W0.heap.size 34 3 v j vs ∧ RwsIR wr 0 W0.heap.size vs (S.take j)) ∧ Hid (HitsO wr 0 w1.heap.size g D ∧ w1.heap.size ≤ wr.heap.size) ∧ Hid (Below W0.heap.size W0 wr)) (fun _ i _ => D.length - (intOf i).toNat)
  case atStart => exact ⟨0, [], Nat.zero_le _, rfl, Lib.hid ⟨HOE.out, rwsIR_nil _ _ _⟩, Lib.hid ⟨HG.out, Nat.le_refl _⟩, HB1⟩
  case round =>
    obtain ⟨j, vs, hj, rfl, HO, HH, HW⟩ := hrel
    have hsr := HW.out.size
    by_cases hlt : j < D.length
    · obtain ⟨hb, ho, rfl, _, hbl, c0, c1⟩ := HH.out.1.1.at_ hlt
      obtain ⟨z, hz, ez, es, _⟩ := HGET.out j hlt
      have HTJ := Lib.hid (HTK.out j (by rw [HRL.out]; exact hlt))
      rw [es] at HTJ
      obtain ⟨h, eh⟩ : ∃ h, D.getD j Ht.no = h := ⟨_, rfl⟩
      rw [eh] at c0 c1 ez
      have hba := below_alloc wr (.cells #[.int .i64 h.key, .int .i64 h.dist] 58)
      obtain ⟨d0, d1⟩ := cells2_new wr (.int .i64 h.key) (.int .i64 h.dist) 58
      obtain ⟨W1, hW1⟩ : ∃ W1, wr.alloc (.cells #[.int .i64 h.key, .int .i64 h.dist] 58) = W1 := ⟨_, rfl⟩
      rw [hW1] at hba d0 d1
      have HBA := Lib.hid hba
      have HI1 := Lib.hid (HIA.out.below (HW.out.trans (hba.mono hsr)))
      have IX := Lib.hid (indexOf_any W1 _ _ q capq z ll h.key HI1.out HND.out hz ez.symm)
      obtain ⟨bb, off, rfl, _, hbb, aj, cj, e0, e1, e2, hx, hcj, hk1, hk2⟩ := HI1.out.at_ hz
      obtain ⟨x, ex⟩ : ∃ x, ll.getD z It.no = x := ⟨_, rfl⟩
      rw [ex] at e0 e1 e2 hx hcj hk1 hk2 HTJ
      have HE01 := Lib.hid (And.intro e0 (And.intro e1 e2))
      have HITV : Hid (ItV W1 0 W0.heap.size x aj cj) := Lib.hid ⟨hx, hcj, hk1, hk2⟩
      have hji : (j : Int) < D.length := by omega
      have hzi : (z : Int) < ll.length := by omega
      clear eh ez es ex hx hcj hk1 hk2 hba e0 e1 e2
      go_wp2_with fail
      clear hW1 c0 c1
      refine IX.out.mono ?_
      rintro e w5 ⟨rfl, hb5⟩
      have HB5 := Lib.hid hb5
      have f0 := cell_later hb5 HE01.out.1
      have f1 := cell_later hb5 HE01.out.2.1
      have f2 := cell_later hb5 HE01.out.2.2
      have HX5 : Hid (Below wr.heap.size wr w5) := Lib.hid (HBA.out.trans (hb5.mono HBA.out.size))
      have hs5 := HX5.out.size
      have HO5 := Lib.hid (owns_upd HO.out.1 (Upd.of_below (lo := 0) (hi := 0) HX5.out) (by omega))
      have HH5 := Lib.hid (HH.out.1.below HX5.out)
      clear hb5 d0 d1
      go_wp2_with (at_builtin; refine append1 rfl _ _ 26 rfl W0.heap.size 34 Try.underlying26 infoItem rfl (by omega) (by omega) _ j vs rfl HO5.out (itCells x aj cj) rfl rfl (itCells_one x aj cj) (by omega) (by omega) ?_; intro v' w6 hown6 hg6; have HO6 := Lib.hid hown6; have HG6 := Lib.hid hg6; clear hown6 hg6)
      have HX6 : Hid (Below W0.heap.size W0 w6) := Lib.hid ((HW.out.trans (HX5.out.mono hsr)).grown HG6.out (by omega) (owns_block HO5.out))
      have U6 : Hid (Upd W0.heap.size w6.heap.size wr w6) := Lib.hid ⟨HG6.out.os.trans HX5.out.os, HG6.out.tape.trans HX5.out.tape, HG6.out.output.trans HX5.out.output, Nat.le_trans hs5 HG6.out.size, fun z hz hd => by
        rcases hd with hd | hd
        · rw [HG6.out.block z (by omega) (fun e => by have := owns_block HO5.out z e.symm; omega)]
          exact HX5.out.block z hz
        · have := HG6.out.size; omega⟩
      have U7 : Hid (Upd W0.heap.size w6.heap.size W1 w6) := Lib.hid ⟨HG6.out.os.trans HB5.out.os, HG6.out.tape.trans HB5.out.tape, HG6.out.output.trans HB5.out.output, Nat.le_trans HB5.out.size HG6.out.size, fun z hz hd => by
        rcases hd with hd | hd
        · rw [HG6.out.block z (by have := HB5.out.size; omega) (fun e => by have := owns_block HO5.out z e.symm; omega)]
          exact HB5.out.block z hz
        · have := HG6.out.size; have := HB5.out.size; omega⟩
      have HH6 := Lib.hid (HH5.out.grown HO5.out (by decide) HG6.out)
      have hs6 := HG6.out.size
      have hs7 := HH.out.2
      go_roundw
      case rel => exact ⟨j + 1, _, by omega, by go_num, Lib.hid ⟨HO6.out, by rw [HTJ.out]; exact (HO.out.2.upd U6.out (by omega)).snoc (HITV.out.upd U7.out (by omega))⟩, Lib.hid ⟨HH6.out, by omega⟩, HX6⟩
      case measure => simp [intOf]; omega
    · have hje : j = D.length := by omega
      subst hje
      have htk : S.take D.length = S := by rw [← HRL.out, List.take_length]
      have HO2 := HO.out.2
      rw [htk] at HO2
      obtain ⟨hnn, a6, c6, hv6, hi6, hc6⟩ := items_of_vals HO.out.1 (hi := wr.heap.size) (lo := 0) (by exact ⟨HO2.1, fun j hj => by obtain ⟨aj, cj, q1, q2, q3, q4⟩ := HO2.2 j hj; exact ⟨aj, cj, q1, q2, q3, q4.wide (Nat.le_refl _) hsr⟩⟩) (by omega) (Nat.zero_le _) (Nat.le_refl _)
      subst hv6
      have N6 := Lib.hid (NI.out wr a6 c6 HW.out hi6)
      have HNN := Lib.hid hnn
      clear hi6 hc6 htk HO2 HO hnn HH
      go_wp2_with fail
      refine N6.out.mono ?_
      rintro e w5 ⟨a5, c5, rfl, h5⟩
      have H5 := Lib.hid h5
      clear h5
      go_wp2_with fail
      go_ret
      exact NewHits.later ⟨a5, c5, rfl, H5.out⟩ (HB0.out.trans (HW.out.mono hs0))
theorem implRK (w : World) (lo hi l2 h2 l3 h3 : Nat) (a b q p : Option Addr) (cap cap' capq capp : Nat) (n k : Int) (L R : List (List Int)) (ll : List It) (m : List Int) (hS : Sides w lo hi a b L R) (hI : Items w l2 h2 q ll) (hM : Ints w l3 h3 p m) :
    Calls Try.prog 29 #[.agg #[.slice a L.length cap, .slice b R.length cap'], .slice q ll.length capq, .slice p m.length capp, .int .i64 n, .int .i64 k] w (NewHits w (rkV L R ll m n k)) := by
  cases hr : rkB L R ll m n k
  · rw [rkV_no hr]
    exact implRK_no w lo hi l2 h2 l3 h3 a b q p cap cap' capq capp n k L R ll m hS hI hM hr
  · rw [rkV_yes hr]
    have hn := rkB_num hr
    have hk := findB_num (cnB_find (rkB_cn hr))
    obtain ⟨x, rfl⟩ : ∃ x : Nat, n = (x : Int) := ⟨n.toNat, by omega⟩
    obtain ⟨y, rfl⟩ : ∃ y : Nat, k = (y : Int) := ⟨k.toNat, by omega⟩
    rw [Int.toNat_natCast, Int.toNat_natCast]
    exact implRK_yes w lo hi l2 h2 l3 h3 a b q p cap cap' capq capp x y L R ll m hS hI hM hr
end Go.Proofs.Ytllahaebfhaobaa
