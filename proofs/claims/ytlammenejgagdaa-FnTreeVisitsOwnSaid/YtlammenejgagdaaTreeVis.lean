/-
  The walk of the program's TreeVisits.
-/
import Derived.Test.YtlammenejgagdaaTreeLook
import Derived.Test.YtlammenejgagdaaTreeSpec
namespace Go.Proofs.Ytlammenejgagdaa
open Go.RowKit
set_option linter.unusedVariables false

/-- the four boxes of the arguments -/
structure FourAt (w : World) (b0 : Nat) (a b : Option Addr) (n cap m capm : Nat) (kind k : Int) : Prop where
  x0 : BoxB w b0 (.slice a n cap) 24
  x1 : BoxB w (b0 + 1) (.int .i64 kind) 3
  x2 : BoxB w (b0 + 1 + 1) (.slice b m capm) 31
  x3 : BoxB w (b0 + 1 + 1 + 1) (.int .i64 k) 3
theorem FourAt.below {w w' : World} {b0 : Nat} {a b : Option Addr} {n cap m capm : Nat} {kind k : Int} (h : FourAt w b0 a b n cap m capm kind k) (u : Below w.heap.size w w') : FourAt w' b0 a b n cap m capm kind k :=
  ⟨h.x0.below u, h.x1.below u, h.x2.below u, h.x3.below u⟩
theorem four_new (w : World) (a b : Option Addr) (n cap m capm : Nat) (kind k : Int) :
    FourAt ((((w.alloc (.cells #[.slice a n cap] 24)).alloc (.cells #[.int .i64 kind] 3)).alloc (.cells #[.slice b m capm] 31)).alloc (.cells #[.int .i64 k] 3)) w.heap.size a b n cap m capm kind k ∧
    Below w.heap.size w ((((w.alloc (.cells #[.slice a n cap] 24)).alloc (.cells #[.int .i64 kind] 3)).alloc (.cells #[.slice b m capm] 31)).alloc (.cells #[.int .i64 k] 3)) := by
  have b1 := below_alloc w (.cells #[.slice a n cap] 24)
  have K1 := BoxB.new w (.slice a n cap) 24
  have s1 : (w.alloc (.cells #[.slice a n cap] 24)).heap.size = w.heap.size + 1 := by simp
  obtain ⟨W1, hW1⟩ : ∃ W1, w.alloc (.cells #[.slice a n cap] 24) = W1 := ⟨_, rfl⟩
  rw [hW1] at b1 K1 s1 ⊢
  have b2 := b1.alloc b1.size (.cells #[.int .i64 kind] 3)
  have K2 := K1.below (below_alloc W1 (.cells #[.int .i64 kind] 3))
  have J2 := BoxB.new W1 (.int .i64 kind) 3
  have s2 : (W1.alloc (.cells #[.int .i64 kind] 3)).heap.size = w.heap.size + 1 + 1 := by simp [s1]
  obtain ⟨W2, hW2⟩ : ∃ W2, W1.alloc (.cells #[.int .i64 kind] 3) = W2 := ⟨_, rfl⟩
  rw [hW2] at b2 K2 J2 s2 ⊢
  rw [s1] at J2
  have b3 := b2.alloc b2.size (.cells #[.slice b m capm] 31)
  have K3 := K2.below (below_alloc W2 (.cells #[.slice b m capm] 31))
  have J3 := J2.below (below_alloc W2 (.cells #[.slice b m capm] 31))
  have I3 := BoxB.new W2 (.slice b m capm) 31
  have s3 : (W2.alloc (.cells #[.slice b m capm] 31)).heap.size = w.heap.size + 1 + 1 + 1 := by simp [s2]
  obtain ⟨W3, hW3⟩ : ∃ W3, W2.alloc (.cells #[.slice b m capm] 31) = W3 := ⟨_, rfl⟩
  rw [hW3] at b3 K3 J3 I3 s3 ⊢
  rw [s2] at I3
  have H4 := BoxB.new W3 (.int .i64 k) 3
  rw [s3] at H4
  have b4 := below_alloc W3 (.cells #[.int .i64 k] 3)
  exact ⟨⟨K3.below b4, J3.below b4, I3.below b4, H4⟩, b3.alloc b3.size _⟩
theorem look_new (w5 : World) (b0 g c nn cap capm n : Nat) (a b : Option Addr) (kind : Int) (ll : List It) (q : List Int) (N : List Nd) (F : FourAt w5 b0 a b ll.length cap q.length capm kind (n : Int)) (ho : w5.ownsRow b0 46 4 (.slice (some ⟨g, 0, none⟩) nn c) nn (flatN N)) (hI : Items w5 0 b0 a ll) (hB : Ints w5 0 b0 b q) (hb : b0 ≤ w5.heap.size) :
    LookAt ((((((w5.alloc (.cells #[.slice (some ⟨g, 0, none⟩) nn c] 23)).alloc (.cells #[] 52)).alloc (.cells #[.slice (some ⟨w5.heap.size + 1, 0, none⟩) 0 0] 34)).alloc (.cells #[.int .i64 0] 3)).alloc (.cells #[.func (.func 40) #[] #[.pointer (some ⟨w5.heap.size + 1 + 1, 0, none⟩), .pointer (some ⟨b0 + 1 + 1 + 1, 0, none⟩)]] 59)).alloc (.cells #[.func (.func 41) #[] #[.pointer (some ⟨w5.heap.size, 0, none⟩), .pointer (some ⟨w5.heap.size + 1 + 1 + 1, 0, none⟩), .pointer (some ⟨b0 + 1, 0, none⟩), .pointer (some ⟨b0, 0, none⟩), .pointer (some ⟨b0 + 1 + 1, 0, none⟩), .pointer (some ⟨w5.heap.size + 1 + 1, 0, none⟩), .pointer (some ⟨b0 + 1 + 1 + 1, 0, none⟩), .pointer (some ⟨w5.heap.size + 1 + 1 + 1 + 1 + 1, 0, none⟩), .pointer (some ⟨w5.heap.size + 1 + 1 + 1 + 1, 0, none⟩)]] 60)) b0 w5.heap.size (w5.heap.size + 1 + 1 + 1) (b0 + 1) b0 (b0 + 1 + 1) (w5.heap.size + 1 + 1) (b0 + 1 + 1 + 1) (w5.heap.size + 1 + 1 + 1 + 1 + 1) (w5.heap.size + 1 + 1 + 1 + 1) g c nn cap capm a b ll kind q n N (w5.heap.size + 1) 0 [] 0 ∧ Below w5.heap.size w5 ((((((w5.alloc (.cells #[.slice (some ⟨g, 0, none⟩) nn c] 23)).alloc (.cells #[] 52)).alloc (.cells #[.slice (some ⟨w5.heap.size + 1, 0, none⟩) 0 0] 34)).alloc (.cells #[.int .i64 0] 3)).alloc (.cells #[.func (.func 40) #[] #[.pointer (some ⟨w5.heap.size + 1 + 1, 0, none⟩), .pointer (some ⟨b0 + 1 + 1 + 1, 0, none⟩)]] 59)).alloc (.cells #[.func (.func 41) #[] #[.pointer (some ⟨w5.heap.size, 0, none⟩), .pointer (some ⟨w5.heap.size + 1 + 1 + 1, 0, none⟩), .pointer (some ⟨b0 + 1, 0, none⟩), .pointer (some ⟨b0, 0, none⟩), .pointer (some ⟨b0 + 1 + 1, 0, none⟩), .pointer (some ⟨w5.heap.size + 1 + 1, 0, none⟩), .pointer (some ⟨b0 + 1 + 1 + 1, 0, none⟩), .pointer (some ⟨w5.heap.size + 1 + 1 + 1 + 1 + 1, 0, none⟩), .pointer (some ⟨w5.heap.size + 1 + 1 + 1 + 1, 0, none⟩)]] 60)) := by
  have s1 : (w5.alloc (.cells #[.slice (some ⟨g, 0, none⟩) nn c] 23)).heap.size = w5.heap.size + 1 := by simp
  have b1 := below_alloc w5 (.cells #[.slice (some ⟨g, 0, none⟩) nn c] 23)
  have K1 := BoxB.new w5 (.slice (some ⟨g, 0, none⟩) nn c) 23
  obtain ⟨W1, hW1⟩ : ∃ W1, w5.alloc (.cells #[.slice (some ⟨g, 0, none⟩) nn c] 23) = W1 := ⟨_, rfl⟩
  rw [hW1] at s1 b1 K1 ⊢
  have s2 : (W1.alloc (.cells #[] 52)).heap.size = w5.heap.size + 1 + 1 := by simp [s1]
  have R2 := owns_empty W1 b0 52 2 (by omega)
  have e2 := below_alloc W1 (.cells #[] 52)
  have b2 := b1.trans (e2.mono b1.size)
  have K2 := K1.below e2
  obtain ⟨W2, hW2⟩ : ∃ W2, W1.alloc (.cells #[] 52) = W2 := ⟨_, rfl⟩
  rw [hW2] at s2 R2 e2 b2 K2 ⊢
  rw [s1] at R2
  have s3 : (W2.alloc (.cells #[.slice (some ⟨w5.heap.size + 1, 0, none⟩) 0 0] 34)).heap.size = w5.heap.size + 1 + 1 + 1 := by simp [s2]
  have e3 := below_alloc W2 (.cells #[.slice (some ⟨w5.heap.size + 1, 0, none⟩) 0 0] 34)
  have b3 := b2.trans (e3.mono b2.size)
  have K3 := K2.below e3
  have R3 := R2.alloc (.cells #[.slice (some ⟨w5.heap.size + 1, 0, none⟩) 0 0] 34)
  have F3 := BoxB.new W2 (.slice (some ⟨w5.heap.size + 1, 0, none⟩) 0 0) 34
  obtain ⟨W3, hW3⟩ : ∃ W3, W2.alloc (.cells #[.slice (some ⟨w5.heap.size + 1, 0, none⟩) 0 0] 34) = W3 := ⟨_, rfl⟩
  rw [hW3] at s3 e3 b3 K3 R3 F3 ⊢
  rw [s2] at F3
  have s4 : (W3.alloc (.cells #[.int .i64 0] 3)).heap.size = w5.heap.size + 1 + 1 + 1 + 1 := by simp [s3]
  have e4 := below_alloc W3 (.cells #[.int .i64 0] 3)
  have b4 := b3.trans (e4.mono b3.size)
  have K4 := K3.below e4
  have R4 := R3.alloc (.cells #[.int .i64 0] 3)
  have F4 := F3.below e4
  have V4 := BoxB.new W3 (.int .i64 0) 3
  obtain ⟨W4, hW4⟩ : ∃ W4, W3.alloc (.cells #[.int .i64 0] 3) = W4 := ⟨_, rfl⟩
  rw [hW4] at s4 e4 b4 K4 R4 F4 V4 ⊢
  rw [s3] at V4
  have s5 : (W4.alloc (.cells #[.func (.func 40) #[] #[.pointer (some ⟨w5.heap.size + 1 + 1, 0, none⟩), .pointer (some ⟨b0 + 1 + 1 + 1, 0, none⟩)]] 59)).heap.size = w5.heap.size + 1 + 1 + 1 + 1 + 1 := by simp [s4]
  have e5 := below_alloc W4 (.cells #[.func (.func 40) #[] #[.pointer (some ⟨w5.heap.size + 1 + 1, 0, none⟩), .pointer (some ⟨b0 + 1 + 1 + 1, 0, none⟩)]] 59)
  have b5 := b4.trans (e5.mono b4.size)
  have K5 := K4.below e5
  have R5 := R4.alloc (.cells #[.func (.func 40) #[] #[.pointer (some ⟨w5.heap.size + 1 + 1, 0, none⟩), .pointer (some ⟨b0 + 1 + 1 + 1, 0, none⟩)]] 59)
  have F5 := F4.below e5
  have V5 := V4.below e5
  have G5 := BoxB.new W4 (.func (.func 40) #[] #[.pointer (some ⟨w5.heap.size + 1 + 1, 0, none⟩), .pointer (some ⟨b0 + 1 + 1 + 1, 0, none⟩)]) 59
  obtain ⟨W5, hW5⟩ : ∃ W5, W4.alloc (.cells #[.func (.func 40) #[] #[.pointer (some ⟨w5.heap.size + 1 + 1, 0, none⟩), .pointer (some ⟨b0 + 1 + 1 + 1, 0, none⟩)]] 59) = W5 := ⟨_, rfl⟩
  rw [hW5] at s5 e5 b5 K5 R5 F5 V5 G5 ⊢
  rw [s4] at G5
  have e6 := below_alloc W5 (.cells #[.func (.func 41) #[] #[.pointer (some ⟨w5.heap.size, 0, none⟩), .pointer (some ⟨w5.heap.size + 1 + 1 + 1, 0, none⟩), .pointer (some ⟨b0 + 1, 0, none⟩), .pointer (some ⟨b0, 0, none⟩), .pointer (some ⟨b0 + 1 + 1, 0, none⟩), .pointer (some ⟨w5.heap.size + 1 + 1, 0, none⟩), .pointer (some ⟨b0 + 1 + 1 + 1, 0, none⟩), .pointer (some ⟨w5.heap.size + 1 + 1 + 1 + 1 + 1, 0, none⟩), .pointer (some ⟨w5.heap.size + 1 + 1 + 1 + 1, 0, none⟩)]] 60)
  have b6 := b5.trans (e6.mono b5.size)
  have H6 := BoxB.new W5 (.func (.func 41) #[] #[.pointer (some ⟨w5.heap.size, 0, none⟩), .pointer (some ⟨w5.heap.size + 1 + 1 + 1, 0, none⟩), .pointer (some ⟨b0 + 1, 0, none⟩), .pointer (some ⟨b0, 0, none⟩), .pointer (some ⟨b0 + 1 + 1, 0, none⟩), .pointer (some ⟨w5.heap.size + 1 + 1, 0, none⟩), .pointer (some ⟨b0 + 1 + 1 + 1, 0, none⟩), .pointer (some ⟨w5.heap.size + 1 + 1 + 1 + 1 + 1, 0, none⟩), .pointer (some ⟨w5.heap.size + 1 + 1 + 1 + 1, 0, none⟩)]) 60
  rw [s5] at H6
  exact ⟨⟨K5.below e6, owns_upd ho (Upd.of_below (lo := 0) (hi := 0) b6) (by omega), V5.below e6, F.x1.below b6, F.x0.below b6, F.x2.below b6, F5.below e6, R5.alloc _, F.x3.below b6, H6, G5.below e6, hI.below b6, hB.below b6, Nat.le_trans hb b6.size⟩, b6⟩
set_option maxHeartbeats 1000000 in
theorem look_none (w : World) (P V bk bl ba Fd bn Lk R g c : Nat) (h : BoxB w P (.slice (some ⟨g, 0, none⟩) 0 c) 23) :
    Calls Try.prog 41 #[.int .i64 0, .pointer (some ⟨P, 0, none⟩), .pointer (some ⟨V, 0, none⟩), .pointer (some ⟨bk, 0, none⟩), .pointer (some ⟨bl, 0, none⟩), .pointer (some ⟨ba, 0, none⟩), .pointer (some ⟨Fd, 0, none⟩), .pointer (some ⟨bn, 0, none⟩), .pointer (some ⟨Lk, 0, none⟩), .pointer (some ⟨R, 0, none⟩)] w fun e w' => e = .returned (.tuple #[]) ∧ w = w' := by
  have cP := h.cell
  clear h
  go_enter Try.func41, Try.ntmps41
  go_wp2_with fail
  (try simp only [Exit.inBlock, Exit.then])
  refine bodyPost_ret (v := .tuple #[]) (by simp [results, Try.results41, go_sem]) rfl ?_
  exact ⟨rfl, rfl⟩
set_option maxRecDepth 100000 in
set_option maxHeartbeats 4000000 in
theorem implTreeVisits (w : World) (lo hi lo' hi' : Nat) (a b : Option Addr) (cap capm : Nat) (kind k : Int) (ll : List It) (q : List Int) (hI : Items w lo hi a ll) (hB : Ints w lo' hi' b q) (hc : Cap ll.length cap) :
    Calls Try.prog 20 #[.slice a ll.length cap, .int .i64 kind, .slice b q.length capm, .int .i64 k] w fun e w' => e = .returned (.int .i64 (tvV kind q ll k)) ∧ Below w.heap.size w w' := by
  obtain ⟨F4, B4⟩ := four_new w a b ll.length cap q.length capm kind k
  obtain ⟨W4, hW4⟩ : ∃ W4, (((w.alloc (.cells #[.slice a ll.length cap] 24)).alloc (.cells #[.int .i64 kind] 3)).alloc (.cells #[.slice b q.length capm] 31)).alloc (.cells #[.int .i64 k] 3) = W4 := ⟨_, rfl⟩
  rw [hW4] at F4 B4
  have CF := Lib.hid (canFind_any W4 lo hi lo' hi' a b cap capm kind k ll q (hI.below B4) (hB.below B4))
  have IT := Lib.hid (isTreeKind_any kind)
  have HF4 := Lib.hid F4
  have HB4 := Lib.hid B4
  have x0 := F4.x0.cell
  have x1 := F4.x1.cell
  have x2 := F4.x2.cell
  have x3 := F4.x3.cell
  cases hf : findB ll kind q k
  · rw [tvV_no (by unfold treeB; rw [hf]; rfl)]
    rw [hf] at CF
    clear F4 B4 hI hB hf
    go_enter Try.func20, Try.ntmps20
    go_wp2_with fail
    clear hW4
    refine CF.out.mono ?_
    rintro e w2 ⟨rfl, hb2⟩
    have HB := Lib.hid (HB4.out.trans (hb2.mono HB4.out.size))
    clear hb2
    go_wp2_with fail
    go_ret
    exact ⟨rfl, HB.out⟩
  · cases hm : metB kind
    · rw [tvV_no (treeB_no2 hm)]
      rw [hf] at CF
      rw [hm] at IT
      clear F4 B4 hI hB hf hm
      go_enter Try.func20, Try.ntmps20
      go_wp2_with fail
      clear hW4
      refine CF.out.mono ?_
      rintro e w2 ⟨rfl, hb2⟩
      have HB := Lib.hid (HB4.out.trans (hb2.mono HB4.out.size))
      replace x1 := (HF4.out.below hb2).x1.cell
      clear hb2
      go_wp2_with fail
      refine (IT.out _).mono ?_
      rintro e w3 ⟨rfl, rfl⟩
      go_wp2_with fail
      go_ret
      exact ⟨rfl, HB.out⟩
    · have htb : treeB ll kind q k = true := by unfold treeB; rw [hf, hm]; rfl
      rw [tvV_yes htb]
      rw [hf] at CF
      rw [hm] at IT
      have hk := findB_num hf
      obtain ⟨n, rfl⟩ : ∃ n : Nat, k = (n : Int) := ⟨k.toNat, by omega⟩
      rw [Int.toNat_natCast]
      have hst := qryB_store (findB_qry hf)
      have hvq := qryB_vec (findB_qry hf)
      have hl16 := storeB_len hst
      have BT := Lib.hid fun w2 (hb : Below w.heap.size w w2) => buildTree_any w2 a cap kind ll ((hI.below hb).all) hc (fun x hx => by
        obtain ⟨j, hj, e⟩ := List.getElem_of_mem hx
        have h := storeB_vec hst hj
        rwa [List.getD_eq_getElem?_getD, List.getElem?_eq_getElem hj, Option.getD_some, e] at h) (by
        refine List.pairwise_iff_getElem.2 fun i j hi hj hij => ?_
        have h := (storeB_AscI hst).nodup i j hij hj
        rw [List.getD_eq_getElem?_getD, List.getElem?_eq_getElem hi, List.getD_eq_getElem?_getD, List.getElem?_eq_getElem hj] at h
        exact h) (by omega)
      have HIQ := Lib.hid (And.intro hI.all hB.allw)
      have HST := Lib.hid hst
      have HVQ := Lib.hid hvq
      clear F4 B4 hI hB hf hm htb hst hvq
      go_enter Try.func20, Try.ntmps20
      go_wp2_with fail
      clear hW4
      refine CF.out.mono ?_
      rintro e w2 ⟨rfl, hb2⟩
      have HB := Lib.hid (HB4.out.trans (hb2.mono HB4.out.size))
      have HF2 := Lib.hid (HF4.out.below hb2)
      replace x0 := HF2.out.x0.cell
      replace x1 := HF2.out.x1.cell
      clear hb2 x2 x3 HF4
      go_wp2_with fail
      refine (IT.out _).mono ?_
      rintro e w3 ⟨rfl, rfl⟩
      go_wp2_with fail
      refine (BT.out _ HB.out).mono ?_
      rintro e w5 ⟨g, c, rfl, ho5, hb5⟩
      have HF5 := Lib.hid (HF2.out.below hb5)
      have HB5 := Lib.hid (HB.out.trans (hb5.mono HB.out.size))
      have HO5 := Lib.hid ho5
      have hNl : ((tr kind ll).nds 0).length = ll.length := by rw [Tr.nds_length, tr_size]
      have NEW := look_new w5 w.heap.size g c ((tr kind ll).nds 0).length cap capm n a b kind ll q ((tr kind ll).nds 0) HF5.out (owns_low ho5 HB.out.size) (HIQ.out.1.below HB5.out) (HIQ.out.2.below HB5.out) HB5.out.size
      have hsub : SubN ((tr kind ll).nds 0) (tr kind ll) 0 := ⟨[], [], by simp, rfl⟩
      have hits : ∀ x ∈ (tr kind ll).items, ∃ j, j < ll.length ∧ ll.getD j It.no = x := fun x hx => by
        obtain ⟨j, hj, e⟩ := List.getElem_of_mem ((tr_items kind ll).mem_iff.1 hx)
        exact ⟨j, hj, by rw [List.getD_eq_getElem?_getD, List.getElem?_eq_getElem hj, Option.getD_some, e]⟩
      have hw5 := HB5.out.size
      have hap : Apart w.heap.size w5.heap.size (w5.heap.size + 1 + 1 + 1) (w.heap.size + 1) w.heap.size (w.heap.size + 1 + 1) (w5.heap.size + 1 + 1) (w.heap.size + 1 + 1 + 1) (w5.heap.size + 1 + 1 + 1 + 1 + 1) (w5.heap.size + 1 + 1 + 1 + 1) := by
        have hb3 := HF5.out.x3.lt
        unfold Apart
        omega
      have LK := look_any w.heap.size w5.heap.size (w5.heap.size + 1 + 1 + 1) (w.heap.size + 1) w.heap.size (w.heap.size + 1 + 1) (w5.heap.size + 1 + 1) (w.heap.size + 1 + 1 + 1) (w5.heap.size + 1 + 1 + 1 + 1 + 1) (w5.heap.size + 1 + 1 + 1 + 1) g c ((tr kind ll).nds 0).length cap capm a b ll kind q n ((tr kind ll).nds 0) hap HST.out HVQ.out (by omega) ⟨rfl, by omega⟩ (tr kind ll) 0 hsub hits _ (w5.heap.size + 1) 0 [] 0 NEW.1 ⟨List.Pairwise.nil, fun y hy => by cases hy⟩ (Nat.zero_le _) (by rw [tr_size]; omega)
      have htop : 0 < ll.length → (tr kind ll).top 0 = 0 := fun h => by rw [tr_top, if_neg (by omega)]; rfl
      have hvis : ll.length = 0 → ((tr kind ll).vis kind q n []).2 = 0 := fun h => by rw [List.eq_nil_of_length_eq_zero h]; rfl
      have HTOP := Lib.hid htop
      have HVIS := Lib.hid hvis
      rw [Nat.zero_add] at LK
      have HLK := Lib.hid LK
      have HNEW := Lib.hid NEW
      have HNL := Lib.hid hNl
      obtain ⟨nn, enn⟩ : ∃ nn, ((tr kind ll).nds 0).length = nn := ⟨_, rfl⟩
      rw [enn] at HLK HNEW HNL ⊢
      obtain ⟨t, et⟩ : ∃ t, tr kind ll = t := ⟨_, rfl⟩
      rw [et] at HLK HNEW HTOP HVIS
      have HET := Lib.hid et
      clear ho5 hb5 x0 x1 NEW hsub hits hap LK htop hvis hNl enn et
      by_cases hl0 : ll.length = 0
      · have hn0 : nn = 0 := by have := HNL.out; omega
        subst hn0
        have v0 := HNEW.out.1.vis.cell
        have l0 := HNEW.out.1.lok.cell
        have LN := Lib.hid (look_none _ _ (w5.heap.size + 1 + 1 + 1) (w.heap.size + 1) w.heap.size (w.heap.size + 1 + 1) (w5.heap.size + 1 + 1) (w.heap.size + 1 + 1 + 1) (w5.heap.size + 1 + 1 + 1 + 1 + 1) (w5.heap.size + 1 + 1 + 1 + 1) g c HNEW.out.1.nod)
        have HBE := Lib.hid (HB5.out.trans (HNEW.out.2.mono HB5.out.size))
        have HV0 := Lib.hid (HVIS.out hl0)
        obtain ⟨W, hW⟩ : ∃ W, ((((((w5.alloc (.cells #[.slice (some ⟨g, 0, none⟩) 0 c] 23)).alloc (.cells #[] 52)).alloc (.cells #[.slice (some ⟨w5.heap.size + 1, 0, none⟩) 0 0] 34)).alloc (.cells #[.int .i64 0] 3)).alloc (.cells #[.func (.func 40) #[] #[.pointer (some ⟨w5.heap.size + 1 + 1, 0, none⟩), .pointer (some ⟨w.heap.size + 1 + 1 + 1, 0, none⟩)]] 59)).alloc (.cells #[.func (.func 41) #[] #[.pointer (some ⟨w5.heap.size, 0, none⟩), .pointer (some ⟨w5.heap.size + 1 + 1 + 1, 0, none⟩), .pointer (some ⟨w.heap.size + 1, 0, none⟩), .pointer (some ⟨w.heap.size, 0, none⟩), .pointer (some ⟨w.heap.size + 1 + 1, 0, none⟩), .pointer (some ⟨w5.heap.size + 1 + 1, 0, none⟩), .pointer (some ⟨w.heap.size + 1 + 1 + 1, 0, none⟩), .pointer (some ⟨w5.heap.size + 1 + 1 + 1 + 1 + 1, 0, none⟩), .pointer (some ⟨w5.heap.size + 1 + 1 + 1 + 1, 0, none⟩)]] 60)) = W := ⟨_, rfl⟩
        rw [hW] at v0 l0 LN HBE
        clear HLK HNEW hl0
        go_wp2_with fail
        clear hW
        refine LN.out.mono ?_
        rintro e w6 ⟨rfl, rfl⟩
        go_wp2_with fail
        go_ret
        rw [HET.out, HV0.out]
        exact ⟨rfl, HBE.out⟩
      · have LK2 := HLK.out
        rw [HTOP.out (by omega)] at LK2
        have HLK2 := Lib.hid LK2
        have HBE := Lib.hid (HB5.out.trans (HNEW.out.2.mono HB5.out.size))
        have l0 := HNEW.out.1.lok.cell
        obtain ⟨W, hW⟩ : ∃ W, ((((((w5.alloc (.cells #[.slice (some ⟨g, 0, none⟩) nn c] 23)).alloc (.cells #[] 52)).alloc (.cells #[.slice (some ⟨w5.heap.size + 1, 0, none⟩) 0 0] 34)).alloc (.cells #[.int .i64 0] 3)).alloc (.cells #[.func (.func 40) #[] #[.pointer (some ⟨w5.heap.size + 1 + 1, 0, none⟩), .pointer (some ⟨w.heap.size + 1 + 1 + 1, 0, none⟩)]] 59)).alloc (.cells #[.func (.func 41) #[] #[.pointer (some ⟨w5.heap.size, 0, none⟩), .pointer (some ⟨w5.heap.size + 1 + 1 + 1, 0, none⟩), .pointer (some ⟨w.heap.size + 1, 0, none⟩), .pointer (some ⟨w.heap.size, 0, none⟩), .pointer (some ⟨w.heap.size + 1 + 1, 0, none⟩), .pointer (some ⟨w5.heap.size + 1 + 1, 0, none⟩), .pointer (some ⟨w.heap.size + 1 + 1 + 1, 0, none⟩), .pointer (some ⟨w5.heap.size + 1 + 1 + 1 + 1 + 1, 0, none⟩), .pointer (some ⟨w5.heap.size + 1 + 1 + 1 + 1, 0, none⟩)]] 60)) = W := ⟨_, rfl⟩
        rw [hW] at HLK2 HBE l0
        obtain ⟨⟨h, s⟩, eh⟩ : ∃ p, t.vis kind q n [] = p := ⟨_, rfl⟩
        rw [eh] at HLK2
        dsimp only at HLK2
        have HEH := Lib.hid eh
        clear HLK HNEW LK2 eh
        go_wp2_with fail
        clear hW
        refine HLK2.out.mono ?_
        rintro e w6 ⟨p6, c6, rfl, L6, k6⟩
        have v6 := L6.vis.cell
        have HBF : Hid (Below w.heap.size w w6) := Lib.hid (HBE.out.trans (k6.below (fun z hz => by rcases hz with rfl | rfl <;> omega) HBE.out.size))
        clear L6 k6
        go_wp2_with fail
        go_ret
        rw [HET.out, HEH.out]
        exact ⟨rfl, HBF.out⟩
end Go.Proofs.Ytlammenejgagdaa
