/-
  The walks of what the exact laws call: the sizes of their arguments, and copies of them.
-/
import Derived.Test.YtllahaebfhaobaaOwn
import Derived.Test.YtllahaebfhaobaaEqWalks
namespace Go.Proofs.Ytllahaebfhaobaa
open Go.RowKit
set_option linter.unusedVariables false

def SzPost (w : World) (n : Nat) (left : Int) (e : Ending) (w' : World) : Prop :=
  ∃ r : Int, e = .returned (.int .i64 r) ∧ ((r = left - n ∧ 0 ≤ r) ∨ (r = -1 ∧ left < n)) ∧ w = w'

set_option maxHeartbeats 400000 in
theorem szIntS_any (w : World) (a : Option Addr) (cap n : Nat) (left : Int) (hn : n ≤ 9223372036854775807) (h0 : 0 ≤ left) (h1 : left ≤ 1048576) :
    Calls Try.prog 83 #[.slice a n cap, .int .i64 left] w (SzPost w n left) := by
  by_cases hl : left < n
  · go_enter Try.func83, Try.ntmps83
    go_wp2
    go_ret
    exact ⟨-1, rfl, .inr ⟨rfl, hl⟩, rfl⟩
  · go_enter Try.func83, Try.ntmps83
    go_wp2
    go_ret
    exact ⟨left - n, rfl, .inl ⟨rfl, by omega⟩, rfl⟩

/-- the lengths of a list of lists are bounded -/
def LensLe (ll : List (List Int)) (left : Int) : Prop := (ll.length : Int) ≤ left ∧ ∀ j, j < ll.length → ((ll.getD j []).length : Int) ≤ left

def SzsPost (w : World) (ll : List (List Int)) (left : Int) (e : Ending) (w' : World) : Prop :=
  ∃ r : Int, e = .returned (.int .i64 r) ∧ (r = -1 ∨ (0 ≤ r ∧ r ≤ left ∧ LensLe ll left)) ∧ w = w'

set_option maxHeartbeats 400000 in
theorem szIntSS_any (w : World) (lo hi : Nat) (a : Option Addr) (cap : Nat) (ll : List (List Int)) (left : Int) (h : Lists w lo hi a ll) (h0 : 0 ≤ left) (h1 : left ≤ 1048576) :
    Calls Try.prog 52 #[.slice a ll.length cap, .int .i64 left] w (SzsPost w ll left) := by
  have hn := h.len
  by_cases hl : left < ll.length
  · go_enter Try.func52, Try.ntmps52
    go_wp2
    go_ret
    exact ⟨-1, rfl, .inl rfl, rfl⟩
  · go_enter Try.func52, Try.ntmps52
    go_wp2
    go_loop [1, 5] (fun s i => ∃ (k : Nat) (r : Int), k ≤ ll.length ∧ i = .int .i64 (k : Int) ∧ s = .int .i64 r ∧ 0 ≤ r ∧ r ≤ left ∧ Hid (∀ j, j < k → ((ll.getD j []).length : Int) ≤ left)) (fun _ i => ll.length - (intOf i).toNat)
    case atStart => exact ⟨0, left - ll.length, Nat.zero_le _, rfl, rfl, by omega, by omega, fun j hj => by omega⟩
    case round =>
      obtain ⟨k, r, hk, rfl, rfl, r0, r1, HL⟩ := hrel
      by_cases hlt : k < ll.length
      · obtain ⟨b, off, aj, cj, rfl, _, _, hc, hi⟩ := h.at_ hlt
        have hx := hi.len
        have HJ := Lib.hid fun (hy : ((ll.getD k []).length : Int) ≤ left) (j : Nat) (hj : j < k + 1) => (show ((ll.getD j []).length : Int) ≤ left from by
          by_cases hjk : j = k
          · subst hjk; exact hy
          · exact HL.out j (by omega))
        obtain ⟨x, ex⟩ : ∃ x, ll.getD k [] = x := ⟨_, rfl⟩
        rw [ex] at hc hi hx HJ
        clear ex
        go_wp2_with fail
        refine (szIntS_any _ _ _ _ _ hx r0 (by omega)).mono ?_
        rintro e w' ⟨r', rfl, hr', rfl⟩
        rcases hr' with ⟨hr1, hr2⟩ | ⟨rfl, hr2⟩
        · have HJ' := Lib.hid (HJ.out (by omega))
          have hr3 : r' ≤ left := by omega
          clear hr1 HJ
          go_wp2_with fail
          go_round
          case rel => exact ⟨k + 1, r', by omega, by go_num, rfl, hr2, hr3, HJ'.out⟩
          case measure => simp [intOf]; omega
        · go_wp2_with fail
          go_ret
          exact ⟨-1, rfl, .inl rfl, rfl⟩
      · have HK := Lib.hid (show k = ll.length by omega)
        go_wp2_with fail
        go_ret
        exact ⟨r, rfl, .inr ⟨r0, r1, by omega, by have := HL.out; rw [HK.out] at this; exact this⟩, rfl⟩

/-- the block B holds the ints l, and nothing else -/
def IntsBlk (w : World) (B : Nat) (l : List Int) : Prop := w.heap[B]? = some (.cells (l.map (Value.int .i64)).toArray 3 (0, 0))
theorem IntsBlk.owns {w : World} {B base : Nat} {l : List Int} (h : IntsBlk w B l) (hb : base ≤ B) (hl : l.length ≤ 9223372036854775807) : w.ownsRow base 3 1 (.slice (some ⟨B, 0, none⟩) l.length l.length) l.length (l.map (Value.int .i64)) := by
  refine ⟨by simp, .inr ⟨B, l.length, _, rfl, hb, h, Nat.le_refl _, hl, by simp, ?_⟩⟩
  rw [Nat.mul_one]
  exact List.take_of_length_le (by simp)
theorem IntsBlk.ints {w : World} {B lo hi : Nat} {l : List Int} (h : IntsBlk w B l) (hok : ∀ x ∈ l, -9223372036854775808 ≤ x ∧ x ≤ 9223372036854775807) (hl : l.length ≤ 9223372036854775807) (h1 : lo ≤ B) (h2 : B < hi) : Ints w lo hi (some ⟨B, 0, none⟩) l := by
  refine ⟨fun _ => ⟨B, 0, rfl, h1, h2, fun j hj => ?_⟩, hl, hok⟩
  unfold World.cell?
  rw [h]
  simp [List.getD_eq_getElem?_getD, List.getElem?_eq_getElem hj]
theorem IntsBlk.read {w w' : World} {B lo hi : Nat} {a : Option Addr} {l : List Int} (h : IntsBlk w B l) (hi' : Ints w' lo hi a l) : Ints w 0 w.heap.size (some ⟨B, 0, none⟩) l :=
  h.ints hi'.ok hi'.len (Nat.zero_le _) (Array.getElem?_eq_some_iff.1 h).1
theorem IntsBlk.upd {w w' : World} {B lo hi : Nat} {l : List Int} (h : IntsBlk w B l) (u : Upd lo hi w w') (hd : B < lo ∨ hi ≤ B) : IntsBlk w' B l := by
  unfold IntsBlk at *
  rw [u.block B (Array.getElem?_eq_some_iff.1 h).1 hd]
  exact h
theorem IntsBlk.of_owns {w : World} {B base n : Nat} {l : List Int} (h : w.ownsRow base 3 1 (.slice (some ⟨B, 0, none⟩) n n) n (l.map (Value.int .i64))) : IntsBlk w B l := by
  rcases h.2 with ⟨hv, _⟩ | ⟨g, cap, cur, hv, _, hg, _, _, h3, h4⟩
  · simp at hv
  · simp only [Value.slice.injEq, Option.some.injEq, Addr.mk.injEq] at hv
    obtain ⟨⟨rfl, _⟩, _, rfl⟩ := hv
    unfold IntsBlk
    rw [hg, ← h4, List.take_of_length_le (by rw [Array.length_toList, h3]; exact Nat.le_refl _)]

def ToIntSPost (w : World) (l : List Int) (e : Ending) (w' : World) : Prop :=
  e = .returned (.slice (some ⟨w.heap.size, 0, none⟩) l.length l.length) ∧ IntsBlk w' w.heap.size l ∧ Below w.heap.size w w'

theorem made_ints (n : Nat) : (madeCells (Value.int .i64 0).cells (n * 1)).toList = (List.replicate n (0 : Int)).map (Value.int .i64) := by
  rw [Nat.mul_one, show (Value.int .i64 0).cells = #[Value.int .i64 0] from rfl, toList_madeCells_one, List.map_replicate]
theorem fill_step {l : List Int} {k n : Nat} (hn : n = l.length) (hk : k < l.length) : (l.take k ++ List.replicate (n - k) 0).set k (l.getD k 0) = l.take (k + 1) ++ List.replicate (n - (k + 1)) 0 := by
  subst hn
  have e : (l.take k).length = k := by simp; omega
  rw [List.set_append, if_neg (by omega), e, Nat.sub_self, show l.length - k = (l.length - (k + 1)) + 1 by omega, List.replicate_succ, List.set_cons_zero, List.take_succ_eq_append_getElem hk, List.append_assoc, List.getD_eq_getElem?_getD, List.getElem?_eq_getElem hk]
  rfl

set_option maxHeartbeats 1000000 in
theorem toIntS_any (w : World) (lo hi : Nat) (a : Option Addr) (cap : Nat) (l : List Int) (h : Ints w lo hi a l) (hl : l.length ≤ 1048576) :
    Calls Try.prog 18 #[.slice a l.length cap] w (ToIntSPost w l) := by
  obtain ⟨i, hi, hz, hi1, hi2⟩ := info_parts infoInt
  have HOK := Lib.hid h.ok
  go_enter Try.func18, Try.ntmps18
  go_wp2_with (at_make; refine wpList_make_full _ rfl _ _ 27 rfl w.heap.size 3 i (.int .i64 0) 1 Try.underlying27 hi hz hi1 .i64 .i64 _ _ l.length rfl rfl rfl rfl (by rw [hi2]; omega) (by unfold maxLen; omega) (Nat.le_refl _) ?_; intro w1 hown hg; have HO := Lib.hid hown; have HG := Lib.hid hg; clear hown hg)
  go_loopw [4] (fun i wr => ∃ k : Nat, k ≤ l.length ∧ i = .int .i64 (k : Int) ∧ Hid (wr.ownsRow w.heap.size 3 1 (.slice (some ⟨w.heap.size, 0, none⟩) l.length l.length) l.length ((l.take k ++ List.replicate (l.length - k) 0).map (Value.int .i64))) ∧ Hid (Below w.heap.size w wr)) (fun i _ => l.length - (intOf i).toNat)
  case atStart => exact ⟨0, Nat.zero_le _, rfl, Lib.hid (by have := HO.out; rw [made_ints] at this; simpa using this), (Below.refl _ _).grown HG.out (Nat.le_refl _) (fun j hj => by cases hj)⟩
  case round =>
    obtain ⟨k, hk, rfl, HO, HB⟩ := hrel
    by_cases hlt : k < l.length
    · obtain ⟨b, off, rfl, _, _, hc, _⟩ := (h.below HB.out).at_ hlt
      have HF := Lib.hid (fill_step (n := l.length) rfl hlt)
      have hf := HO.out.frozenAt k
      have hcell := HO.out.cellAt k (by omega)
      rw [List.getElem?_map, List.getElem?_append_right (by simp; omega), List.getElem?_replicate, if_pos (by simp; omega)] at hcell
      simp only [Option.map_some] at hcell
      obtain ⟨x, ex⟩ : ∃ x, l.getD k 0 = x := ⟨_, rfl⟩
      rw [ex] at hc HF
      clear ex
      go_wp2
      have HO2 := HO.out.stored k (.int .i64 x)
      go_roundw
      case rel => exact ⟨k + 1, by omega, by go_num, by rw [← HF.out, List.map_set]; exact HO2.1, HB.out.grown HO2.2 HB.out.size (fun j hj => by cases hj; exact Nat.le_refl _)⟩
      case measure => simp [intOf]; omega
    · have HK := Lib.hid (show k = l.length by omega)
      go_wp2
      go_ret
      refine ⟨rfl, IntsBlk.of_owns (base := w.heap.size) (n := l.length) ?_, HB.out⟩
      have := HO.out
      rw [HK.out, List.take_length, Nat.sub_self] at this
      simpa using this

/-- the blocks bs j, one behind the other and behind B, hold the rows of ll; the block B holds the slices of them -/
def SSAt (w : World) (B : Nat) (bs : Nat → Nat) (ll : List (List Int)) : Prop :=
  w.heap[B]? = some (.cells ((List.range ll.length).map fun j => Value.slice (some ⟨bs j, 0, none⟩) (ll.getD j []).length (ll.getD j []).length).toArray 27 (0, 0)) ∧
  (∀ j, j < ll.length → B < bs j ∧ IntsBlk w (bs j) (ll.getD j [])) ∧ (∀ i j, i < j → j < ll.length → bs i < bs j) ∧
  (∀ j, j < ll.length → (ll.getD j []).length ≤ 1048576 ∧ ∀ x ∈ ll.getD j [], -9223372036854775808 ≤ x ∧ x ≤ 9223372036854775807) ∧ ll.length ≤ 1048576
def ToIntSSPost (w : World) (ll : List (List Int)) (e : Ending) (w' : World) : Prop :=
  ∃ bs, e = .returned (.slice (some ⟨w.heap.size, 0, none⟩) ll.length ll.length) ∧ SSAt w' w.heap.size bs ll ∧ Below w.heap.size w w'
theorem SSAt.lists {w : World} {B : Nat} {bs : Nat → Nat} {ll : List (List Int)} (h : SSAt w B bs ll) : Lists w B w.heap.size (some ⟨B, 0, none⟩) ll := by
  obtain ⟨h1, h2, h3, h4, h5⟩ := h
  refine ⟨fun _ => ⟨B, 0, rfl, Nat.le_refl _, (Array.getElem?_eq_some_iff.1 h1).1, fun j hj => ⟨some ⟨bs j, 0, none⟩, (ll.getD j []).length, ?_, ?_⟩⟩, by omega⟩
  · unfold World.cell?
    rw [h1]
    simp [hj]
  · exact (h2 j hj).2.ints (h4 j hj).2 (by have := (h4 j hj).1; omega) (by have := (h2 j hj).1; omega) (Array.getElem?_eq_some_iff.1 (h2 j hj).2).1
theorem SSAt.upd {w w' : World} {B lo hi : Nat} {bs : Nat → Nat} {ll : List (List Int)} (h : SSAt w B bs ll) (u : Upd lo hi w w') (hd : w.heap.size ≤ lo ∨ hi ≤ B) : SSAt w' B bs ll := by
  obtain ⟨h1, h2, h3, h4, h5⟩ := h
  refine ⟨?_, fun j hj => ⟨(h2 j hj).1, (h2 j hj).2.upd u ?_⟩, h3, h4, h5⟩
  · rw [u.block B (Array.getElem?_eq_some_iff.1 h1).1 (by have := (Array.getElem?_eq_some_iff.1 h1).1; omega)]
    exact h1
  · have := (Array.getElem?_eq_some_iff.1 (h2 j hj).2).1
    have := (h2 j hj).1
    omega
theorem SSAt.below {w w' : World} {B : Nat} {bs : Nat → Nat} {ll : List (List Int)} (h : SSAt w B bs ll) (u : Below w.heap.size w w') : SSAt w' B bs ll := h.upd (Upd.of_below (lo := w.heap.size) (hi := 0) u) (.inl (Nat.le_refl _))

set_option maxHeartbeats 1000000 in
theorem toIntSS_any (w : World) (lo hi : Nat) (a : Option Addr) (cap : Nat) (ll : List (List Int)) (h : Lists w lo hi a ll) (hl : LensLe ll 1048576) :
    Calls Try.prog 54 #[.slice a ll.length cap] w (ToIntSSPost w ll) := by
  obtain ⟨i, hi, hz, hi1, hi2⟩ := info_parts infoInts
  have hl0 := hl.1
  have HL := Lib.hid hl
  clear hl
  go_enter Try.func54, Try.ntmps54
  go_wp2_with (at_make; refine wpList_make_full _ rfl _ _ 23 rfl w.heap.size 27 i (.slice none 0 0) 1 Try.underlying23 hi hz hi1 .i64 .i64 _ _ ll.length rfl rfl rfl rfl (by rw [hi2]; omega) (by unfold maxLen; omega) (Nat.le_refl _) ?_; intro w1 hown hg; have HO := Lib.hid hown; have HG := Lib.hid hg; clear hown hg)
  go_loopw [4] (fun i wr => ∃ (k : Nat) (bs : Nat → Nat), k ≤ ll.length ∧ i = .int .i64 (k : Int) ∧ Hid (wr.ownsRow w.heap.size 27 1 (.slice (some ⟨w.heap.size, 0, none⟩) ll.length ll.length) ll.length ((List.range ll.length).map fun j => if j < k then Value.slice (some ⟨bs j, 0, none⟩) (ll.getD j []).length (ll.getD j []).length else .slice none 0 0)) ∧
      Hid ((∀ j, j < k → w.heap.size < bs j ∧ IntsBlk wr (bs j) (ll.getD j [])) ∧ ∀ i j, i < j → j < k → bs i < bs j) ∧ Hid (Below w.heap.size w wr) ∧ w.heap.size < wr.heap.size) (fun i _ => ll.length - (intOf i).toNat)
  case atStart =>
    refine ⟨0, fun _ => 0, Nat.zero_le _, rfl, ?_, ⟨fun j hj => by omega, fun i j _ hj => by omega⟩, (Below.refl _ _).grown HG.out (Nat.le_refl _) (fun j hj => by cases hj), ?_⟩
    · have := HO.out
      rw [Nat.mul_one, show (Value.slice none 0 0).cells = #[Value.slice none 0 0] from rfl, toList_madeCells_one] at this
      have e : ((List.range ll.length).map fun j => if j < 0 then Value.slice (some ⟨(fun _ => 0) j, 0, none⟩) (ll.getD j []).length (ll.getD j []).length else .slice none 0 0) = List.replicate ll.length (.slice none 0 0) := by
        refine List.ext_getElem? fun j => ?_
        by_cases hj : j < ll.length <;> simp [hj]
      show World.ownsRow _ _ _ _ _ _ _
      rw [e]
      exact this
    · rcases HO.out.2 with ⟨hv, _⟩ | ⟨g, c, cur, hv, _, hg, _⟩
      · simp at hv
      · simp only [Value.slice.injEq, Option.some.injEq, Addr.mk.injEq] at hv
        obtain ⟨⟨rfl, _⟩, _⟩ := hv
        exact (Array.getElem?_eq_some_iff.1 hg).1
  case round =>
    obtain ⟨k, bs, hk, rfl, HO, HR, HB, hsz⟩ := hrel
    by_cases hlt : k < ll.length
    · obtain ⟨b, off, aj, cj, rfl, _, _, hc, hx⟩ := (h.below HB.out).at_ hlt
      have hlen := HL.out.2 k hlt
      have HX := Lib.hid hx
      have C := Lib.hid (toIntS_any wr _ _ aj cj _ hx (by omega))
      obtain ⟨x, ex⟩ : ∃ x, ll.getD k [] = x := ⟨_, rfl⟩
      rw [ex] at hc C hlen
      have EX := Lib.hid ex
      clear ex hx
      go_wp2_with fail
      refine C.out.mono ?_
      rintro e w2 ⟨rfl, hblk, hb2⟩
      have HK2 := Lib.hid hblk
      have HB2 := Lib.hid hb2
      have hs2 := hb2.size
      have hs3 : wr.heap.size < w2.heap.size := (Array.getElem?_eq_some_iff.1 hblk).1
      have HO2 := Lib.hid (owns_upd HO.out (Upd.of_below (lo := 0) (hi := 0) hb2) (by omega))
      have hf := HO2.out.frozenAt k
      have hcell := HO2.out.cellAt k (by omega)
      rw [List.getElem?_map, List.getElem?_range hlt] at hcell
      simp only [Option.map_some, Nat.lt_irrefl, if_false] at hcell
      clear hblk hb2
      go_wp2_with fail
      have HO3 := HO2.out.stored k (.slice (some ⟨wr.heap.size, 0, none⟩) x.length x.length)
      have U3 : Upd w.heap.size (w.heap.size + 1) w2 (w2.setCell ⟨w.heap.size, k, none⟩ (.slice (some ⟨wr.heap.size, 0, none⟩) x.length x.length)) := Upd.setCell _ _ _ (Nat.le_refl _) (by show w.heap.size < w.heap.size + 1; omega)
      go_roundw
      case rel =>
        refine ⟨k + 1, fun j => if j = k then wr.heap.size else bs j, by omega, by go_num, ?_, ⟨fun j hj => ?_, fun i j hij hj => ?_⟩, (HB.out.trans (HB2.out.mono (by omega))).grown HO3.2 (by omega) (fun j hj => by cases hj; exact Nat.le_refl _), by simpa [World.setCell] using (show w.heap.size < w2.heap.size by omega)⟩
        · have e : ((List.range ll.length).map fun j => if j < k then Value.slice (some ⟨bs j, 0, none⟩) (ll.getD j []).length (ll.getD j []).length else .slice none 0 0).set k (.slice (some ⟨wr.heap.size, 0, none⟩) x.length x.length) =
              (List.range ll.length).map fun j => if j < k + 1 then Value.slice (some ⟨(fun j => if j = k then wr.heap.size else bs j) j, 0, none⟩) (ll.getD j []).length (ll.getD j []).length else .slice none 0 0 := by
            refine List.ext_getElem? fun j => ?_
            by_cases hj : j < ll.length
            · by_cases hjk : k = j
              · subst hjk
                rw [List.getElem?_set_self (by simpa using hj), List.getElem?_map, List.getElem?_range hj]
                simp [← EX.out]
              · rw [List.getElem?_set_ne hjk, List.getElem?_map, List.getElem?_range hj, List.getElem?_map, List.getElem?_range hj]
                have h1 : (j < k) ↔ (j < k + 1) := by omega
                have h2 : ¬ j = k := fun h => hjk h.symm
                simp [h1, h2]
            · rw [List.getElem?_eq_none (by simp; omega), List.getElem?_eq_none (by simp; omega)]
          rw [← e]
          exact HO3.1
        · dsimp only
          by_cases hjk : j = k
          · subst hjk
            rw [if_pos rfl, EX.out]
            exact ⟨hsz, HK2.out.upd U3 (by omega)⟩
          · rw [if_neg hjk]
            obtain ⟨q1, q2⟩ := HR.out.1 j (by omega)
            have hq := (Array.getElem?_eq_some_iff.1 q2).1
            exact ⟨q1, (q2.upd (Upd.of_below (lo := 0) (hi := 0) HB2.out) (by omega)).upd U3 (by omega)⟩
        · dsimp only
          have hi1 : i ≠ k := by omega
          rw [if_neg hi1]
          by_cases hjk : j = k
          · rw [if_pos hjk]
            exact (Array.getElem?_eq_some_iff.1 (HR.out.1 i (by omega)).2).1
          · rw [if_neg hjk]
            exact HR.out.2 i j hij (by omega)
      case measure => simp [intOf]; omega
    · have HK := Lib.hid (show k = ll.length by omega)
      go_wp2_with fail
      go_ret
      refine ⟨bs, rfl, ⟨?_, fun j hj => HR.out.1 j (by have := HK.out; omega), fun i j hij hj => HR.out.2 i j hij (by have := HK.out; omega), fun j hj => ?_, by omega⟩, HB.out⟩
      · rcases HO.out.2 with ⟨hv, _⟩ | ⟨g, c, cur, hv, _, hg, _, _, q3, q4⟩
        · simp at hv
        · simp only [Value.slice.injEq, Option.some.injEq, Addr.mk.injEq] at hv
          obtain ⟨⟨rfl, _⟩, _, rfl⟩ := hv
          rw [hg]
          have e : cur.toList = (List.range ll.length).map fun j => Value.slice (some ⟨bs j, 0, none⟩) (ll.getD j []).length (ll.getD j []).length := by
            rw [List.take_of_length_le (by rw [Array.length_toList, q3]; exact Nat.le_refl _)] at q4
            rw [q4, HK.out]
            refine List.map_congr_left fun j hj => ?_
            rw [if_pos (by simpa using hj)]
          rw [← e]
      · obtain ⟨_, _, _, _, _, _, _, _, hi'⟩ := h.at_ hj
        exact ⟨by have := HL.out.2 j hj; omega, hi'.ok⟩
end Go.Proofs.Ytllahaebfhaobaa
