/-
  The walks of what the exact laws call on items: their sizes, copies of them, comparisons, marks.
-/
import Derived.Test.YtllahaebfhaobaaMarkSS
import Derived.Test.YtllahaebfhaobaaItemOwn
import Derived.BigQuiet
namespace Go.Proofs.Ytllahaebfhaobaa
open Go.RowKit
set_option linter.unusedVariables false

/-- the lengths of the vectors of items are bounded -/
def ItsLe (ll : List It) (left : Int) : Prop := (ll.length : Int) ≤ left ∧ ∀ j, j < ll.length → ((ll.getD j It.no).pos.length : Int) ≤ left
theorem ItsLe.mono {ll : List It} {a b : Int} (h : ItsLe ll a) (hab : a ≤ b) : ItsLe ll b := ⟨by have := h.1; omega, fun j hj => by have := h.2 j hj; omega⟩
def SzItemPost (w : World) (n : Nat) (left : Int) (e : Ending) (w' : World) : Prop :=
  ∃ r : Int, e = .returned (.int .i64 r) ∧ ((r = left - n ∧ 0 ≤ r) ∨ (r = -1 ∧ left < n)) ∧ Below w.heap.size w w'
set_option maxHeartbeats 400000 in
theorem szItem_any (w : World) (a : Option Addr) (cap : Nat) (x : It) (left : Int) (hn : x.pos.length ≤ 9223372036854775807) (h0 : 0 ≤ left) (h1 : left ≤ 1048576) :
    Calls Try.prog 53 #[.agg #[.int .i64 x.key, .slice a x.pos.length cap, .int .i64 x.tags], .int .i64 left] w (SzItemPost w x.pos.length left) := by
  obtain ⟨d0, d1, d2⟩ := cells3_new w (.int .i64 x.key) (.slice a x.pos.length cap) (.int .i64 x.tags) 76
  have HB := Lib.hid (below_alloc w (.cells #[.int .i64 x.key, .slice a x.pos.length cap, .int .i64 x.tags] 76))
  go_enter Try.func53, Try.ntmps53
  go_wp2_with fail
  refine (szIntS_any _ _ _ _ left hn h0 h1).mono ?_
  rintro e w2 ⟨r, rfl, hr, rfl⟩
  rcases hr with ⟨hr1, hr2⟩ | ⟨rfl, hr2⟩
  · have HR := Lib.hid hr1
    clear hr1
    go_wp2_with fail
    go_ret
    exact ⟨r, rfl, .inl ⟨HR.out, hr2⟩, HB.out⟩
  · go_wp2_with fail
    go_ret
    exact ⟨-1, rfl, .inr ⟨rfl, hr2⟩, HB.out⟩
def SzItemsPost (w : World) (ll : List It) (left : Int) (e : Ending) (w' : World) : Prop :=
  ∃ r : Int, e = .returned (.int .i64 r) ∧ (r = -1 ∨ (0 ≤ r ∧ r ≤ left ∧ ItsLe ll left)) ∧ Below w.heap.size w w'
set_option maxHeartbeats 400000 in
theorem szItemS_any (w : World) (lo hi : Nat) (a : Option Addr) (cap : Nat) (ll : List It) (left : Int) (h : Items w lo hi a ll) (h0 : 0 ≤ left) (h1 : left ≤ 1048576) :
    Calls Try.prog 15 #[.slice a ll.length cap, .int .i64 left] w (SzItemsPost w ll left) := by
  have hn := h.len
  by_cases hl : left < ll.length
  · go_enter Try.func15, Try.ntmps15
    go_wp2
    go_ret
    exact ⟨-1, rfl, .inl rfl, Below.refl _ _⟩
  · go_enter Try.func15, Try.ntmps15
    go_wp2_with fail
    go_loopw [1, 5] (fun s i wr => ∃ (k : Nat) (r : Int), k ≤ ll.length ∧ i = .int .i64 (k : Int) ∧ s = .int .i64 r ∧ 0 ≤ r ∧ r ≤ left ∧ Hid (∀ j, j < k → ((ll.getD j It.no).pos.length : Int) ≤ left) ∧ Hid (Below w.heap.size w wr)) (fun _ i _ => ll.length - (intOf i).toNat)
    case atStart => exact ⟨0, left - ll.length, Nat.zero_le _, rfl, rfl, by omega, by omega, fun j hj => by omega, Below.refl _ _⟩
    case round =>
      obtain ⟨k, r, hk, rfl, rfl, r0, r1, HL, HB⟩ := hrel
      by_cases hlt : k < ll.length
      · obtain ⟨b, off, rfl, _, _, aj, cj, c0, c1, c2, hx, _, _, _⟩ := (h.below HB.out).at_ hlt
        have hxl := hx.len
        have HJ := Lib.hid fun (hy : ((ll.getD k It.no).pos.length : Int) ≤ left) (j : Nat) (hj : j < k + 1) => (show ((ll.getD j It.no).pos.length : Int) ≤ left from by
          by_cases hjk : j = k
          · subst hjk; exact hy
          · exact HL.out j (by omega))
        obtain ⟨x, ex⟩ : ∃ x, ll.getD k It.no = x := ⟨_, rfl⟩
        rw [ex] at c0 c1 c2 hx hxl HJ
        clear ex hx
        go_wp2_with fail
        refine (szItem_any _ _ _ x _ hxl r0 (by omega)).mono ?_
        rintro e w' ⟨r', rfl, hr', hb⟩
        have HB2 := Lib.hid (HB.out.trans (hb.mono HB.out.size))
        clear hb c0 c1 c2
        rcases hr' with ⟨hr1, hr2⟩ | ⟨rfl, hr2⟩
        · have HJ' := Lib.hid (HJ.out (by omega))
          have hr3 : r' ≤ left := by omega
          clear hr1 HJ
          go_wp2_with fail
          go_roundw
          case rel => exact ⟨k + 1, r', by omega, by go_num, rfl, hr2, hr3, HJ'.out, HB2.out⟩
          case measure => simp [intOf]; omega
        · go_wp2_with fail
          go_ret
          exact ⟨-1, rfl, .inl rfl, HB2.out⟩
      · have HK := Lib.hid (show k = ll.length by omega)
        go_wp2_with fail
        go_ret
        exact ⟨r, rfl, .inr ⟨r0, r1, by omega, by have := HL.out; rw [HK.out] at this; exact this⟩, HB.out⟩

/-- the copy of an item: its vector lies alone in a new block -/
def ToItemPost (w : World) (x : It) (e : Ending) (w' : World) : Prop :=
  ∃ B, e = .returned (.agg #[.int .i64 x.key, .slice (some ⟨B, 0, none⟩) x.pos.length x.pos.length, .int .i64 x.tags]) ∧ IntsBlk w' B x.pos ∧ w.heap.size ≤ B ∧ Below w.heap.size w w'
/-- three new blocks -/
theorem alloc3i (w : World) (x y z : Array Value) (t u v : TypeId) :
    (((w.alloc (.cells x t)).alloc (.cells y u)).alloc (.cells z v)).heap[w.heap.size]? = some (.cells x t (0, 0)) ∧ (((w.alloc (.cells x t)).alloc (.cells y u)).alloc (.cells z v)).heap[w.heap.size + 1]? = some (.cells y u (0, 0)) ∧
    (((w.alloc (.cells x t)).alloc (.cells y u)).alloc (.cells z v)).heap[w.heap.size + 1 + 1]? = some (.cells z v (0, 0)) ∧ Below w.heap.size w (((w.alloc (.cells x t)).alloc (.cells y u)).alloc (.cells z v)) ∧ (((w.alloc (.cells x t)).alloc (.cells y u)).alloc (.cells z v)).heap.size = w.heap.size + 1 + 1 + 1 := by
  have s1 : (w.alloc (.cells x t)).heap.size = w.heap.size + 1 := by simp
  have s2 : ((w.alloc (.cells x t)).alloc (.cells y u)).heap.size = w.heap.size + 1 + 1 := by simp
  have q0 := heap_alloc_new w (.cells x t)
  have q1 := heap_alloc_new (w.alloc (.cells x t)) (.cells y u)
  have q2 := heap_alloc_new ((w.alloc (.cells x t)).alloc (.cells y u)) (.cells z v)
  rw [s1] at q1
  rw [s2] at q2
  refine ⟨?_, ?_, q2, ((Below.refl _ _).alloc (Nat.le_refl _) _ |>.alloc (by rw [s1]; omega) _).alloc (by rw [s2]; omega) _, by simp⟩
  · rw [Below.heap_alloc _ _ _ (by rw [s2]; omega), Below.heap_alloc _ _ _ (by rw [s1]; omega)]
    exact q0
  · rw [Below.heap_alloc _ _ _ (by rw [s2]; omega)]
    exact q1
set_option maxHeartbeats 1000000 in
theorem toItem_any (w : World) (lo hi : Nat) (a : Option Addr) (cap : Nat) (x : It) (h : Ints w lo hi a x.pos) (hl : x.pos.length ≤ 1048576) :
    Calls Try.prog 55 #[.agg #[.int .i64 x.key, .slice a x.pos.length cap, .int .i64 x.tags]] w (ToItemPost w x) := by
  obtain ⟨Y0, Y1, V1, hB1, hsz⟩ := alloc3i w #[.int .i64 x.key, .slice a x.pos.length cap, .int .i64 x.tags] #[.int .i64 0, .slice none 0 0, .int .i64 0] #[.int .i64 x.key, .slice none 0 0, .int .i64 0] 76 34 34
  have H := Lib.hid h
  have HP := Lib.hid (And.intro Y0 (And.intro Y1 (And.intro V1 (And.intro hB1 hsz))))
  clear h Y0 Y1 V1 hB1 hsz
  go_enter Try.func55, Try.ntmps55
  go_wp2_with fail
  obtain ⟨W1, hW1⟩ : ∃ W1, ((w.alloc (.cells #[.int .i64 x.key, .slice a x.pos.length cap, .int .i64 x.tags] 76)).alloc (.cells #[.int .i64 0, .slice none 0 0, .int .i64 0] 34)).alloc (.cells #[.int .i64 x.key, .slice none 0 0, .int .i64 0] 34) = W1 := ⟨_, rfl⟩
  rw [hW1] at HP ⊢
  have HB := Lib.hid HP.out.2.2.2.1
  have HY := Lib.hid (And.intro HP.out.1 (And.intro HP.out.2.1 HP.out.2.2.1))
  have hs2 : w.heap.size + 1 + 1 < W1.heap.size := by have := HP.out.2.2.2.2; omega
  have hx := H.out.below HB.out
  clear hW1 HP
  refine (toIntS_any W1 _ _ _ _ x.pos hx hl).mono ?_
  rintro e w2 ⟨rfl, hblk, hb2⟩
  have HK := Lib.hid hblk
  have HB2 := Lib.hid hb2
  have hs3 := hb2.size
  have Z0 := (hb2.block w.heap.size (by omega)).trans HY.out.1
  have Z1 := (hb2.block (w.heap.size + 1) (by omega)).trans HY.out.2.1
  have Z2 := (hb2.block (w.heap.size + 1 + 1) (by omega)).trans HY.out.2.2
  have x2 := cells3_2 Z0
  have v0 := cells3_0 Z2
  have v1 := cells3_1 Z2
  have v2 := cells3_2 Z2
  have vf := cells3_f Z2
  have r0 := cells3_0 Z1
  have r1 := cells3_1 Z1
  have r2 := cells3_2 Z1
  have rf := cells3_f Z1
  have HZ := Lib.hid (And.intro Z1 Z2)
  clear hblk hb2 Z0 Z1 Z2 hx
  go_wp2_with fail
  have u2 : Upd (w.heap.size + 1 + 1) (w.heap.size + 1 + 1 + 1) w2 ((w2.setCell ⟨w.heap.size + 1 + 1, 1, none⟩ (.slice (some ⟨W1.heap.size, 0, none⟩) x.pos.length x.pos.length)).setCell ⟨w.heap.size + 1 + 1, 2, none⟩ (.int .i64 x.tags)) := (upd_set _ _ _ _).trans (upd_set _ _ _ _)
  have Y3 := (u2.block (w.heap.size + 1) (by omega) (by omega)).trans HZ.out.1
  obtain ⟨s0, s1, s2⟩ := store3c Y3 (.int .i64 x.key) (.slice (some ⟨W1.heap.size, 0, none⟩) x.pos.length x.pos.length) (.int .i64 x.tags)
  (try simp only [Exit.inBlock, Exit.then])
  refine bodyPost_ret (v := .agg #[.int .i64 x.key, .slice (some ⟨W1.heap.size, 0, none⟩) x.pos.length x.pos.length, .int .i64 x.tags]) (by simp [results, Try.results55, go_sem, s0, s1, s2]) rfl ?_
  have u3 := upd_store3 ((w2.setCell ⟨w.heap.size + 1 + 1, 1, none⟩ (.slice (some ⟨W1.heap.size, 0, none⟩) x.pos.length x.pos.length)).setCell ⟨w.heap.size + 1 + 1, 2, none⟩ (.int .i64 x.tags)) (w.heap.size + 1) (.int .i64 x.key) (.slice (some ⟨W1.heap.size, 0, none⟩) x.pos.length x.pos.length) (.int .i64 x.tags)
  have hbb := HB.out
  have hb2 := HB2.out
  have h34 := u2.size
  exact ⟨W1.heap.size, rfl, (HK.out.upd u2 (by omega)).upd u3 (by omega), by omega, ((hbb.trans (hb2.mono (by omega))).trans (u2.low (by omega) (by omega))).trans (u3.low (by omega) (by omega))⟩

/-- the cells c are those of the items ll, their vectors lie at the head of the blocks bs -/
def RowI (c : Array Value) (bs : Nat → Nat) (ll : List It) (n : Nat) : Prop :=
  ∀ j, j < n → c[j * 3]? = some (.int .i64 (ll.getD j It.no).key) ∧ c[j * 3 + 1]? = some (.slice (some ⟨bs j, 0, none⟩) (ll.getD j It.no).pos.length (ll.getD j It.no).pos.length) ∧ c[j * 3 + 2]? = some (.int .i64 (ll.getD j It.no).tags)
/-- a copy of a slice of items whose blocks lie in lo .. hi-1 -/
def ItemsIn (w : World) (lo hi B : Nat) (bs : Nat → Nat) (ll : List It) : Prop :=
  (∃ c, w.heap[B]? = some (.cells c 34 (0, 0)) ∧ c.size = ll.length * 3 ∧ RowI c bs ll ll.length) ∧ (∀ j, j < ll.length → B < bs j ∧ bs j < hi ∧ IntsBlk w (bs j) (ll.getD j It.no).pos) ∧ (∀ i j, i < j → j < ll.length → bs i < bs j) ∧
  (∀ j, j < ll.length → (ll.getD j It.no).pos.length ≤ 1048576 ∧ (∀ x ∈ (ll.getD j It.no).pos, -9223372036854775808 ≤ x ∧ x ≤ 9223372036854775807) ∧ i64B (ll.getD j It.no).key ∧ i64B (ll.getD j It.no).tags) ∧ ll.length ≤ 1048576 ∧ lo ≤ B ∧ B < hi
theorem ItemsIn.upd {w w' : World} {lo hi lo' hi' B : Nat} {bs : Nat → Nat} {ll : List It} (h : ItemsIn w lo hi B bs ll) (u : Upd lo' hi' w w') (hd : hi ≤ lo' ∨ hi' ≤ lo) : ItemsIn w' lo hi B bs ll := by
  obtain ⟨⟨c, h1, h2, h3⟩, h4, h5, h6, h7, h8, h9⟩ := h
  refine ⟨⟨c, ?_, h2, h3⟩, fun j hj => ⟨(h4 j hj).1, (h4 j hj).2.1, (h4 j hj).2.2.upd u ?_⟩, h5, h6, h7, h8, h9⟩
  · rw [u.block B (Array.getElem?_eq_some_iff.1 h1).1 (by omega)]; exact h1
  · have := h4 j hj; omega
theorem ItemsIn.below {w w' : World} {lo hi B : Nat} {bs : Nat → Nat} {ll : List It} (h : ItemsIn w lo hi B bs ll) (u : Below w.heap.size w w') : ItemsIn w' lo hi B bs ll := by
  obtain ⟨⟨c, h1, h2, h3⟩, h4, h5, h6, h7, h8, h9⟩ := h
  refine ⟨⟨c, ?_, h2, h3⟩, fun j hj => ⟨(h4 j hj).1, (h4 j hj).2.1, (h4 j hj).2.2.upd (Upd.of_below (lo := w.heap.size) (hi := 0) u) ?_⟩, h5, h6, h7, h8, h9⟩
  · rw [u.block B (Array.getElem?_eq_some_iff.1 h1).1]; exact h1
  · have := (Array.getElem?_eq_some_iff.1 (h4 j hj).2.2).1; omega
theorem ItemsIn.drawn {w w' : World} {lo hi B : Nat} {bs : Nat → Nat} {ll : List It} (h : ItemsIn w lo hi B bs ll) (u : Drawn w w') : ItemsIn w' lo hi B bs ll := h.below u.below
theorem ItemsIn.items {w : World} {lo hi B : Nat} {bs : Nat → Nat} {ll : List It} (h : ItemsIn w lo hi B bs ll) : Items w 0 w.heap.size (some ⟨B, 0, none⟩) ll := by
  obtain ⟨⟨c, h1, h2, h3⟩, h4, h5, h6, h7, h8, h9⟩ := h
  refine ⟨fun _ => ⟨B, 0, rfl, Nat.zero_le _, (Array.getElem?_eq_some_iff.1 h1).1, fun j hj => ?_⟩, by omega⟩
  obtain ⟨q0, q1, q2⟩ := h3 j hj
  obtain ⟨p1, p2, p3, p4⟩ := h6 j hj
  refine ⟨some ⟨bs j, 0, none⟩, (ll.getD j It.no).pos.length, ?_, ?_, ?_, (h4 j hj).2.2.ints p2 (by omega) (Nat.zero_le _) (Array.getElem?_eq_some_iff.1 (h4 j hj).2.2).1, ⟨Nat.le_refl _, by omega⟩, p3, p4⟩
  · rw [cell_blk h1, Nat.zero_add]; exact q0
  · rw [cell_blk h1, Nat.zero_add]; exact q1
  · rw [cell_blk h1, Nat.zero_add]; exact q2
def ToItemsPost (w : World) (ll : List It) (e : Ending) (w' : World) : Prop :=
  ∃ bs, e = .returned (.slice (some ⟨w.heap.size, 0, none⟩) ll.length ll.length) ∧ ItemsIn w' w.heap.size w'.heap.size w.heap.size bs ll ∧ Below w.heap.size w w'
/-- what the rows of a copy under way are -/
def RowP (vs : List Value) (bs : Nat → Nat) (ll : List It) (n : Nat) : Prop :=
  ∀ j, j < n → vs[j * 3]? = some (.int .i64 (ll.getD j It.no).key) ∧ vs[j * 3 + 1]? = some (.slice (some ⟨bs j, 0, none⟩) (ll.getD j It.no).pos.length (ll.getD j It.no).pos.length) ∧ vs[j * 3 + 2]? = some (.int .i64 (ll.getD j It.no).tags)
theorem RowP.step {vs : List Value} {bs : Nat → Nat} {ll : List It} {k B n : Nat} (h : RowP vs bs ll k) (hvs : vs.length = n * 3) (hk : k < n) {x : It} (ex : ll.getD k It.no = x) :
    RowP (((vs.set (k * 3) (.int .i64 x.key)).set (k * 3 + 1) (.slice (some ⟨B, 0, none⟩) x.pos.length x.pos.length)).set (k * 3 + 2) (.int .i64 x.tags)) (fun j => if j = k then B else bs j) ll (k + 1) := by
  intro j hj
  by_cases hjk : j = k
  · subst hjk
    rw [ex]
    refine ⟨?_, ?_, ?_⟩
    · rw [List.getElem?_set_ne (by omega), List.getElem?_set_ne (by omega), List.getElem?_set_self (by omega)]
    · rw [List.getElem?_set_ne (by omega), List.getElem?_set_self (by simp; omega)]
      simp
    · rw [List.getElem?_set_self (by simp; omega)]
  · obtain ⟨h1, h2, h3⟩ := h j (by omega)
    refine ⟨?_, ?_, ?_⟩
    · rw [List.getElem?_set_ne (by omega), List.getElem?_set_ne (by omega), List.getElem?_set_ne (by omega)]; exact h1
    · rw [List.getElem?_set_ne (by omega), List.getElem?_set_ne (by omega), List.getElem?_set_ne (by omega)]
      simp only [hjk, if_false]
      exact h2
    · rw [List.getElem?_set_ne (by omega), List.getElem?_set_ne (by omega), List.getElem?_set_ne (by omega)]; exact h3
set_option maxHeartbeats 1000000 in
theorem toItemS_any (w : World) (lo hi : Nat) (a : Option Addr) (cap : Nat) (ll : List It) (h : Items w lo hi a ll) (hl : ItsLe ll 1048576) :
    Calls Try.prog 17 #[.slice a ll.length cap] w (ToItemsPost w ll) := by
  obtain ⟨i, hi, hz, hi1, hi2⟩ := info_parts infoItem
  have hl0 := hl.1
  have HL := Lib.hid hl
  clear hl
  go_enter Try.func17, Try.ntmps17
  go_wp2_with (at_make; refine wpList_make_full _ rfl _ _ 26 rfl w.heap.size 34 i (.agg #[.int .i64 0, .slice none 0 0, .int .i64 0]) 3 Try.underlying26 hi hz hi1 .i64 .i64 _ _ ll.length rfl rfl rfl rfl (by rw [hi2]; omega) (by unfold maxLen; omega) (Nat.le_refl _) ?_; intro w1 hown hg; have HO := Lib.hid hown; have HG := Lib.hid hg; clear hown hg)
  go_loopw [4] (fun i wr => ∃ (k : Nat) (bs : Nat → Nat) (vs : List Value), k ≤ ll.length ∧ i = .int .i64 (k : Int) ∧ Hid (wr.ownsRow w.heap.size 34 3 (.slice (some ⟨w.heap.size, 0, none⟩) ll.length ll.length) ll.length vs) ∧ Hid (RowP vs bs ll k) ∧
      Hid ((∀ j, j < k → w.heap.size < bs j ∧ IntsBlk wr (bs j) (ll.getD j It.no).pos) ∧ ∀ i j, i < j → j < k → bs i < bs j) ∧ Hid (Below w.heap.size w wr) ∧ w.heap.size < wr.heap.size) (fun i _ => ll.length - (intOf i).toNat)
  case atStart =>
    refine ⟨0, fun _ => 0, _, Nat.zero_le _, rfl, HO.out, fun j hj => by omega, ⟨fun j hj => by omega, fun i j _ hj => by omega⟩, (Below.refl _ _).grown HG.out (Nat.le_refl _) (fun j hj => by cases hj), ?_⟩
    rcases HO.out.2 with ⟨hv, _⟩ | ⟨g, c, cur, hv, _, hg, _⟩
    · simp at hv
    · simp only [Value.slice.injEq, Option.some.injEq, Addr.mk.injEq] at hv
      obtain ⟨⟨rfl, _⟩, _⟩ := hv
      exact (Array.getElem?_eq_some_iff.1 hg).1
  case round =>
    obtain ⟨k, bs, vs, hk, rfl, HO, HP, HR, HB, hsz⟩ := hrel
    by_cases hlt : k < ll.length
    · obtain ⟨b, off, rfl, _, _, aj, cj, c0, c1, c2, hx, _, _, _⟩ := (h.below HB.out).at_ hlt
      have hlen := HL.out.2 k hlt
      obtain ⟨x, ex⟩ : ∃ x, ll.getD k It.no = x := ⟨_, rfl⟩
      have EX := Lib.hid ex
      rw [ex] at c0 c1 c2 hx hlen
      have C := Lib.hid (toItem_any wr _ _ aj cj x hx (by omega))
      clear ex hx
      go_wp2_with fail
      refine C.out.mono ?_
      rintro e w2 ⟨B, rfl, hblk, hBB, hb2⟩
      have HK2 := Lib.hid hblk
      have HB2 := Lib.hid hb2
      have hs2 := hb2.size
      have hs3 : B < w2.heap.size := (Array.getElem?_eq_some_iff.1 hblk).1
      have hvl := HO.out.1
      have HO2 := Lib.hid (owns_upd HO.out (Upd.of_below (lo := 0) (hi := 0) hb2) (by omega))
      have f0 := HO2.out.frozenAt (k * 3)
      have f1 := HO2.out.frozenAt (k * 3 + 1)
      have f2 := HO2.out.frozenAt (k * 3 + 2)
      obtain ⟨v0, e0⟩ : ∃ v, vs[k * 3]? = some v := ⟨_, List.getElem?_eq_getElem (by omega)⟩
      obtain ⟨v1, e1⟩ : ∃ v, vs[k * 3 + 1]? = some v := ⟨_, List.getElem?_eq_getElem (by omega)⟩
      obtain ⟨v2, e2⟩ : ∃ v, vs[k * 3 + 2]? = some v := ⟨_, List.getElem?_eq_getElem (by omega)⟩
      have q0 := (HO2.out.cellAt (k * 3) (by omega)).trans e0
      have q1 := (HO2.out.cellAt (k * 3 + 1) (by omega)).trans e1
      have q2 := (HO2.out.cellAt (k * 3 + 2) (by omega)).trans e2
      have HVL := Lib.hid hvl
      clear hblk hb2 e0 e1 e2 hvl c0 c1 c2
      go_wp2_with fail
      have HO3 := HO2.out.stored (k * 3) (.int .i64 x.key)
      have HO4 := HO3.1.stored (k * 3 + 1) (.slice (some ⟨B, 0, none⟩) x.pos.length x.pos.length)
      have HO5 := HO4.1.stored (k * 3 + 2) (.int .i64 x.tags)
      have U5 : Upd w.heap.size (w.heap.size + 1) w2 (((w2.setCell ⟨w.heap.size, k * 3, none⟩ (.int .i64 x.key)).setCell ⟨w.heap.size, k * 3 + 1, none⟩ (.slice (some ⟨B, 0, none⟩) x.pos.length x.pos.length)).setCell ⟨w.heap.size, k * 3 + 2, none⟩ (.int .i64 x.tags)) := ((upd_set _ _ _ _).trans (upd_set _ _ _ _)).trans (upd_set _ _ _ _)
      have hs5 := U5.size
      have hbb := HB.out
      go_roundw
      case rel =>
        refine ⟨k + 1, fun j => if j = k then B else bs j, _, by omega, by go_num, HO5.1, HP.out.step HVL.out hlt EX.out, ⟨fun j hj => ?_, fun i j hij hj => ?_⟩, (hbb.trans (HB2.out.mono (by omega))).trans (U5.low (Nat.le_refl _) (by omega)), by omega⟩
        · dsimp only
          by_cases hjk : j = k
          · subst hjk
            rw [if_pos rfl, EX.out]
            exact ⟨by omega, HK2.out.upd U5 (by omega)⟩
          · rw [if_neg hjk]
            obtain ⟨p1, p2⟩ := HR.out.1 j (by omega)
            have hq := (Array.getElem?_eq_some_iff.1 p2).1
            exact ⟨p1, (p2.upd (Upd.of_below (lo := 0) (hi := 0) HB2.out) (by omega)).upd U5 (by omega)⟩
        · dsimp only
          have hi1 : i ≠ k := by omega
          rw [if_neg hi1]
          by_cases hjk : j = k
          · rw [if_pos hjk]
            have := (Array.getElem?_eq_some_iff.1 (HR.out.1 i (by omega)).2).1
            omega
          · rw [if_neg hjk]
            exact HR.out.2 i j hij (by omega)
      case measure => simp [intOf]; omega
    · have HK := Lib.hid (show k = ll.length by omega)
      go_wp2_with fail
      go_ret
      refine ⟨bs, rfl, ⟨?_, fun j hj => ?_, fun i j hij hj => HR.out.2 i j hij (by have := HK.out; omega), fun j hj => ?_, by omega, Nat.le_refl _, hsz⟩, HB.out⟩
      · rcases HO.out.2 with ⟨hv, _⟩ | ⟨g, c, cur, hv, _, hg, _, _, q3, q4⟩
        · simp at hv
        · simp only [Value.slice.injEq, Option.some.injEq, Addr.mk.injEq] at hv
          obtain ⟨⟨rfl, _⟩, _, rfl⟩ := hv
          refine ⟨cur, hg, q3, fun j hj => ?_⟩
          have e : cur.toList = vs := by rw [← q4]; exact (List.take_of_length_le (by rw [Array.length_toList, q3]; exact Nat.le_refl _)).symm
          obtain ⟨r0, r1, r2⟩ := HP.out j (by have := HK.out; omega)
          rw [← e] at r0 r1 r2
          simp only [Array.getElem?_toList] at r0 r1 r2
          exact ⟨r0, r1, r2⟩
      · have q := HR.out.1 j (by have := HK.out; omega)
        exact ⟨q.1, (Array.getElem?_eq_some_iff.1 q.2).1, q.2⟩
      · obtain ⟨_, _, _, _, _, _, _, _, _, _, hi', _, k1, k2⟩ := h.at_ hj
        exact ⟨by have := HL.out.2 j hj; omega, hi'.ok, k1, k2⟩
set_option maxHeartbeats 1000000 in
theorem eqItem_same (w : World) (lo hi lo' hi' : Nat) (a b : Option Addr) (cap cap' : Nat) (x : It) (h : Ints w lo hi a x.pos) (h' : Ints w lo' hi' b x.pos) :
    Calls Try.prog 58 #[.agg #[.int .i64 x.key, .slice a x.pos.length cap, .int .i64 x.tags], .agg #[.int .i64 x.key, .slice b x.pos.length cap', .int .i64 x.tags]] w fun e w' => e = .returned (.bool true) ∧ Below w.heap.size w w' := by
  have B0 := below_alloc w (.cells #[.int .i64 x.key, .slice a x.pos.length cap, .int .i64 x.tags] 34)
  have X0 := heap_alloc_new w (.cells #[.int .i64 x.key, .slice a x.pos.length cap, .int .i64 x.tags] 34)
  have B1 := below_alloc (w.alloc (.cells #[.int .i64 x.key, .slice a x.pos.length cap, .int .i64 x.tags] 34)) (.cells #[.int .i64 x.key, .slice b x.pos.length cap', .int .i64 x.tags] 34)
  have X1 := heap_alloc_new (w.alloc (.cells #[.int .i64 x.key, .slice a x.pos.length cap, .int .i64 x.tags] 34)) (.cells #[.int .i64 x.key, .slice b x.pos.length cap', .int .i64 x.tags] 34)
  have X0' := (B1.block w.heap.size (by simp)).trans X0
  rw [World.size_alloc] at X1
  have S := Lib.hid ((h.below B0).below B1)
  have S' := Lib.hid ((h'.below B0).below B1)
  have HB := Lib.hid (B0.trans (B1.mono B0.size))
  have HX := Lib.hid (And.intro X0' X1)
  have c0 := cells3_0 X0'
  have c1 := cells3_1 X0'
  have d0 := cells3_0 X1
  have d1 := cells3_1 X1
  clear B0 B1 X0 X1 X0' h h'
  go_enter Try.func58, Try.ntmps58
  go_wp2_with fail
  obtain ⟨W, hW⟩ : ∃ W, (w.alloc (.cells #[.int .i64 x.key, .slice a x.pos.length cap, .int .i64 x.tags] 34)).alloc (.cells #[.int .i64 x.key, .slice b x.pos.length cap', .int .i64 x.tags] 34) = W := ⟨_, rfl⟩
  rw [hW] at S S' HB HX c0 c1 d0 d1 ⊢
  clear hW
  refine (eqIntS_any _ _ _ _ _ _ _ cap cap' x.pos x.pos S.out S'.out).mono ?_
  rintro e w2 ⟨rfl, hd⟩
  rw [eqL_self]
  have HB2 := Lib.hid (HB.out.trans hd.below)
  have Y0 := HX.out.1
  have Y1 := HX.out.2
  rw [← hd.heap] at Y0 Y1
  have e2 := cells3_2 Y0
  have f2 := cells3_2 Y1
  clear hd c0 c1 d0 d1 Y0 Y1
  go_wp2_with fail
  go_ret
  exact ⟨rfl, HB2.out⟩
set_option maxHeartbeats 1000000 in
theorem eqItemS_same (w : World) (lo hi lo' hi' : Nat) (a b : Option Addr) (cap cap' : Nat) (ll : List It) (h : Items w lo hi a ll) (h' : Items w lo' hi' b ll) :
    Calls Try.prog 21 #[.slice a ll.length cap, .slice b ll.length cap'] w fun e w' => e = .returned (.bool true) ∧ Below w.heap.size w w' := by
  have hll := h.len
  go_enter Try.func21, Try.ntmps21
  go_wp2_with fail
  go_loopw [5] (fun i wr => ∃ k : Nat, k ≤ ll.length ∧ i = .int .i64 (k : Int) ∧ Hid (Below w.heap.size w wr)) (fun i _ => ll.length - (intOf i).toNat)
  case atStart => exact ⟨0, Nat.zero_le _, rfl, Below.refl _ _⟩
  case round =>
    obtain ⟨k, hk, rfl, HB⟩ := hrel
    by_cases hlt : k < ll.length
    · obtain ⟨b1, off, rfl, _, _, aj, cj, c0, c1, c2, hx, _, _, _⟩ := (h.below HB.out).at_ hlt
      obtain ⟨b2, off2, rfl, _, _, aj', cj', d0, d1, d2, hx', _, _, _⟩ := (h'.below HB.out).at_ hlt
      obtain ⟨x, ex⟩ : ∃ x, ll.getD k It.no = x := ⟨_, rfl⟩
      rw [ex] at c0 c1 c2 hx d0 d1 d2 hx'
      have cI := Lib.hid (met_below (fun w' hw' => eqItem_same w' lo hi lo' hi' aj aj' cj cj' x (hx.below hw') (hx'.below hw')))
      have hki : (k : Int) < ll.length := by omega
      replace c0 := cell_regrown c0
      replace c1 := cell_regrown c1
      replace c2 := cell_regrown c2
      replace d0 := cell_regrown d0
      replace d1 := cell_regrown d1
      replace d2 := cell_regrown d2
      clear ex hx hx'
      go_wp2_with fail
      refine wp_region_quiet_below (by kernel_rfl) (by kernel_rfl) ?_
      repeat (go_big_quiet_step ((go_at_call 58; exact cI.out _ _)))
      refine wpQuiet_nil ?_
      intro _ hw'
      obtain ⟨⟨dq, osq⟩, hw''⟩ := hw'
      subst hw''
      replace HB := Lib.hid (HB.out.trans ((below_regrown wr dq osq).mono HB.out.size))
      obtain ⟨w2, hw2⟩ : ∃ w2, Go.Sort.grow (redrawn wr dq) osq = w2 := ⟨_, rfl⟩
      rw [hw2] at HB ⊢
      clear hw2 c0 c1 c2 d0 d1 d2
      go_wp2_with fail
      go_roundw
      case rel => exact ⟨k + 1, by omega, by go_num, HB.out⟩
      case measure => simp [intOf]; omega
    · go_wp2_with fail
      go_ret
      exact ⟨rfl, HB.out⟩
def MarkItPost (w : World) (lo hi : Nat) (k : Int) (e : Ending) (w' : World) : Prop :=
  ∃ k' : Int, e = .returned (.int .i64 k') ∧ 0 ≤ k' ∧ k' ≤ k + 4398046511104 ∧ Upd lo hi w w' ∧ w'.heap.size = w.heap.size
set_option maxHeartbeats 1000000 in
theorem markItemS_any (w : World) (lo hi B : Nat) (bs : Nat → Nat) (ll : List It) (k : Int) (h : ItemsIn w lo hi B bs ll) (k0 : 0 ≤ k) (k1 : k ≤ 1152921504606846976) :
    Calls Try.prog 24 #[.slice (some ⟨B, 0, none⟩) ll.length ll.length, .int .i64 k] w (MarkItPost w lo hi k) := by
  obtain ⟨hc, h4, h5, h6, hlen, h8, h9⟩ := h
  have HC := Lib.hid hc
  have H4 := Lib.hid h4
  have H5 := Lib.hid h5
  have H6 := Lib.hid h6
  have HLH := Lib.hid (And.intro h8 h9)
  clear hc h4 h5 h6 h8 h9
  go_enter Try.func24, Try.ntmps24
  go_wp2_with fail
  go_loopw [1, 5] (fun v i wr => ∃ (j : Nat) (k' : Int), j ≤ ll.length ∧ i = .int .i64 (j : Int) ∧ v = .int .i64 k' ∧ 0 ≤ k' ∧ k' ≤ k + 2097152 * (j : Int) ∧ Hid (Upd lo hi w wr ∧ wr.heap.size = w.heap.size) ∧
      Hid (∃ c, wr.heap[B]? = some (.cells c 34 (0, 0)) ∧ c.size = ll.length * 3 ∧ ∀ q, q < ll.length → c[q * 3 + 1]? = some (.slice (some ⟨bs q, 0, none⟩) (ll.getD q It.no).pos.length (ll.getD q It.no).pos.length)) ∧ Hid (∀ q, j ≤ q → q < ll.length → wr.heap[bs q]? = w.heap[bs q]?)) (fun _ i _ => ll.length - (intOf i).toNat)
  case atStart =>
    obtain ⟨c, q1, q2, q3⟩ := HC.out
    exact ⟨0, k, Nat.zero_le _, rfl, rfl, k0, by omega, ⟨Upd.refl _ _ _, rfl⟩, ⟨c, q1, q2, fun q hq => (q3 q hq).2.1⟩, fun _ _ _ => rfl⟩
  case round =>
    obtain ⟨j, k', hj, rfl, rfl, k2, k3, HU, HB, HH⟩ := hrel
    by_cases hlt : j < ll.length
    · obtain ⟨c, q1, q2, q3⟩ := HB.out
      have HQ := Lib.hid (And.intro q1 (And.intro q2 q3))
      obtain ⟨v0, e0⟩ : ∃ v, c[j * 3]? = some v := ⟨_, Array.getElem?_eq_getElem (by omega)⟩
      obtain ⟨v2, e2⟩ : ∃ v, c[j * 3 + 2]? = some v := ⟨_, Array.getElem?_eq_getElem (by omega)⟩
      have c0 := (cell_blk (o := j * 3) q1).trans e0
      have c1 := (cell_blk (o := j * 3 + 1) q1).trans (q3 j hlt)
      have f0 := frozen_blk (o := j * 3) q1
      have E2 := Lib.hid e2
      have hr := H6.out j hlt
      have hbl := H4.out j hlt
      have hblk : IntsBlk wr (bs j) (ll.getD j It.no).pos := by
        unfold IntsBlk
        rw [HH.out j (Nat.le_refl _) hlt]
        exact hbl.2.2
      have hlo := HLH.out
      have u1 := upd_set wr B (j * 3) (.int .i64 k')
      have V1 := Lib.hid (set_blk (o := j * 3) q1 (.int .i64 k'))
      have hblk1 := hblk.upd u1 (by omega)
      have M := Lib.hid (markIntS_any (wr.setCell ⟨B, j * 3, none⟩ (.int .i64 k')) (bs j) (bs j + 1) _ (ll.getD j It.no).pos.length (ll.getD j It.no).pos (k' + 1) (hblk1.ints hr.2.1 (by omega) (Nat.le_refl _) (Nat.lt_succ_self _)) (fun _ b' off' ha => by
        simp only [Option.some.injEq, Addr.mk.injEq] at ha
        obtain ⟨rfl, _, _⟩ := ha
        exact ⟨_, hblk1⟩) (by omega) (by omega) (by omega))
      have hle := hr.1
      obtain ⟨n, hn⟩ : ∃ n, (ll.getD j It.no).pos.length = n := ⟨_, rfl⟩
      rw [hn] at c1 M hle
      have hji : (j : Int) < ll.length := by omega
      have HBL := Lib.hid hbl
      have HU1 := Lib.hid u1
      have hs1 : (wr.setCell ⟨B, j * 3, none⟩ (.int .i64 k')).heap.size = wr.heap.size := by simp [World.setCell]
      have HS1 := Lib.hid hs1
      clear hblk hblk1 hr hn q1 q2 q3 e0 e2 u1 hbl hs1
      go_wp2_with fail
      refine M.out.mono ?_
      rintro e w2 ⟨rfl, _, _, hu2, hs2⟩
      have hb2 := (hu2.block B (by rw [HS1.out, HU.out.2]; obtain ⟨c', r1, _⟩ := HC.out; exact (Array.getElem?_eq_some_iff.1 r1).1) (by have := HBL.out.1; omega)).trans V1.out
      have d2 := (cell_blk (o := j * 3 + 2) hb2).trans ((Array.getElem?_setIfInBounds_ne (by omega)).trans E2.out)
      have g2 := frozen_blk (o := j * 3 + 2) hb2
      have HU2 := Lib.hid (And.intro hu2 hs2)
      have HB2 := Lib.hid hb2
      clear hu2 hs2 c0 c1 f0 hb2
      go_wp2_with fail
      have u3 := upd_set w2 B (j * 3 + 2) (.int .i64 (k' + 1 + (n : Int)))
      have hs3 : (w2.setCell ⟨B, j * 3 + 2, none⟩ (.int .i64 (k' + 1 + (n : Int)))).heap.size = w2.heap.size := by simp [World.setCell]
      have hb3 := set_blk (o := j * 3 + 2) HB2.out (.int .i64 (k' + 1 + (n : Int)))
      have hloh := HLH.out
      have hblo := HBL.out
      go_roundw
      case rel =>
        refine ⟨j + 1, k' + 1 + (n : Int) + 1, by omega, by go_num, rfl, by omega, by omega, ⟨((HU.out.1.trans (HU1.out.weak (by omega) (by omega))).trans (HU2.out.1.weak (by omega) (by omega))).trans (u3.weak (by omega) (by omega)), by rw [hs3, HU2.out.2, HS1.out]; exact HU.out.2⟩, ⟨_, hb3, by simpa using HQ.out.2.1, fun q hq => ?_⟩, fun q hq hql => ?_⟩
        · rw [Array.getElem?_setIfInBounds_ne (by omega), Array.getElem?_setIfInBounds_ne (by omega)]
          exact HQ.out.2.2 q hq
        · have hm := H5.out j q (by omega) hql
          have hq4 := H4.out q hql
          have hqs : bs q < wr.heap.size := by rw [HU.out.2]; exact (Array.getElem?_eq_some_iff.1 hq4.2.2).1
          rw [u3.block (bs q) (by rw [HU2.out.2, HS1.out]; exact hqs) (by omega), HU2.out.1.block (bs q) (by rw [HS1.out]; exact hqs) (by omega), HU1.out.block (bs q) hqs (by omega)]
          exact HH.out q (by omega) hql
      case measure => simp [intOf]; omega
    · have hje : j = ll.length := by omega
      subst hje
      go_wp2_with fail
      go_ret
      exact ⟨k', rfl, k2, by omega, HU.out⟩
end Go.Proofs.Ytllahaebfhaobaa
