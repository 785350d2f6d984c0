/-
  What a sort by slices.SortFunc does to a row of the call's own, in the words of these texts. The walks of cmp.Or and compareHits. The walks of firstHits and nearest, the program's and the reference's.
-/
import Derived.Test.YtmpoljhdcgdnnaaHits
import Derived.Test.YtmpoljhdcgdnnaaNearPlain
import Derived.Shelf.SlSortCmp.NoneTotal
import Derived.Test.YtmpoljhdcgdnnaaSortPlain
import Derived.Test.YtmpoljhdcgdnnaaSortTops
import Derived.Deep.RegionWith
import Derived.Deep.RegionHeld3
import Derived.Deep.RegionLaw
import Derived.BigQuiet
import Derived.StillTailTactics
import Derived.Test.YtmpoljhdcgdnnaaHitWalks
namespace Go.Proofs.Ytmpoljhdcgdnnaa
open Go.RowKit Go.Sort Go.Shelf Go.Lib
set_option linter.unusedVariables false

/-- the sort touches its row's block, and lays new blocks -/
theorem upd_sort {α : Type} [Inhabited α] (enc : α → List Value) (k : Nat) (w : World) (blk off m : Nat) (d : Array α) (os : Array Obj) (hb : blk < w.heap.size) : Upd blk (blk + 1) w (sortWorldK enc k w blk off m d os) := by
  refine ⟨rfl, rfl, rfl, ?_, fun q hq hr => ?_⟩
  · simp [sortWorldK, Go.Sort.grow, putRowK, putRow, mapBlock, ahead]
  · have hne : blk ≠ q := by omega
    simp [sortWorldK, Go.Sort.grow, putRowK, putRow, mapBlock, ahead, Array.getElem?_append, hq, Array.getElem?_modify, hne]
    rw [Array.getElem_modify, if_neg hne]
/-- a slice of no hits at all, as slices.SortFunc takes it, or hits in a row of the call's own -/
theorem holdsK_of_owns {w : World} {base e k n cap g : Nat} {α : Type} [Inhabited α] (enc : α → List Value) (hk : ∀ x, (enc x).length = k) (d : Array α) (hn : d.size = n)
    (h : w.ownsRow base e k (.slice (some ⟨g, 0, none⟩) n cap) n (d.toList.flatMap enc)) : HoldsK enc k w g 0 d := by
  intro j hj
  rw [size_flatK] at hj
  have hl : (d.toList.flatMap enc).length = n * k := h.1
  have h5 := h.cellAt j (by rw [← hn]; exact hj)
  rw [Nat.zero_add]
  refine ⟨?_, h.frozenAt j⟩
  rw [h5, get_flatK _ _ _ _ hj]
  have k0 : 0 < k := by
    rcases Nat.eq_zero_or_pos k with h0 | h0
    · subst h0; simp at hj
    · exact h0
  have hq : j / k < d.size := (Nat.div_lt_iff_lt_mul k0).2 hj
  have key : ∀ (l : List α) (t : Nat), t < l.length * k → (l.flatMap enc)[t]? = some (enc (l.getD (t / k) default))[t % k]! := by
    intro l
    induction l with
    | nil => intro t ht; simp at ht
    | cons x l ih =>
      intro t ht
      rw [List.flatMap_cons]
      by_cases hlt : t < k
      · rw [List.getElem?_append_left (by rw [hk]; exact hlt), Nat.div_eq_of_lt hlt, Nat.mod_eq_of_lt hlt]
        show _ = some (enc x)[t]!
        rw [List.getElem?_eq_getElem (by rw [hk]; exact hlt), getElem!_pos (enc x) t (by rw [hk]; exact hlt)]
      · have ht' : t - k < l.length * k := by
          rw [List.length_cons, Nat.add_mul, Nat.one_mul] at ht
          omega
        rw [List.getElem?_append_right (by rw [hk]; omega), hk, ih _ ht']
        have e1 : t / k = (t - k) / k + 1 := by rw [← Nat.sub_add_cancel (show k ≤ t by omega), Nat.add_div_right _ k0, Nat.add_sub_cancel]
        have e2 : t % k = (t - k) % k := by rw [Nat.mod_eq_sub_mod (by omega)]
        rw [e1, e2]
        rfl
  rw [key d.toList j (by rw [Array.length_toList]; exact hj)]
  have e3 : d.toList.getD (j / k) default = d[j / k]! := by
    rw [List.getD_eq_getElem?_getD, List.getElem?_eq_getElem (by rw [Array.length_toList]; exact hq), getElem!_pos d _ hq]
    simp
  rw [e3]
  rfl
end Go.Proofs.Ytmpoljhdcgdnnaa

namespace Go.Proofs.Ytmpoljhdcgdnnaa
open Go.RowKit
set_option linter.unusedVariables false

/-- the first that is not zero -/
def orI (a b : Int) : Int := if a = 0 then b else a
theorem orI_cmp (a b c d : Int) : orI (cmpI a b) (cmpI c d) < 0 ↔ a < b ∨ (a = b ∧ c < d) := by
  unfold orI cmpI
  split <;> split <;> (try split) <;> (try split) <;> (try split) <;> omega
set_option maxHeartbeats 1000000 in
theorem or_any (w : World) (B : Nat) (a b : Int) (h0 : w.cell? ⟨B, 0, none⟩ = some (.int .i64 a)) (h1 : w.cell? ⟨B, 1, none⟩ = some (.int .i64 b)) :
    Calls Try.prog 110 #[.slice (some ⟨B, 0, none⟩) 2 2] w fun e w' => e = .returned (.int .i64 (orI a b)) ∧ w = w' := by
  by_cases ha : a = 0
  · subst ha
    have e : orI 0 b = b := rfl
    rw [e]
    go_enter Try.func110, Try.ntmps110
    go_wp2_with fail
    go_loop [8] (fun i => ∃ k : Nat, k ≤ 2 ∧ i = .int .i64 (k : Int) ∧ (k = 2 → b = 0)) (fun i => 2 - (intOf i).toNat)
    case atStart => exact ⟨0, by omega, rfl, fun h => absurd h (by omega)⟩
    case round =>
      obtain ⟨k, hk, rfl, hb⟩ := hrel
      by_cases h0' : k = 0
      · subst h0'
        go_wp2_with fail
        go_round
        case rel => exact ⟨1, by omega, by go_num, fun h => absurd h (by omega)⟩
        case measure => simp [intOf]
      · by_cases h1' : k = 1
        · subst h1'
          clear hb h0'
          by_cases hb0 : b = 0
          · subst hb0
            go_wp2_with fail
            go_round
            case rel => exact ⟨2, by omega, by go_num, by simp⟩
            case measure => simp [intOf]
          · have hne : (b != 0) = true := by simpa using hb0
            go_wp2_with fail
            go_ret
            exact ⟨rfl, rfl⟩
        · have h2 : k = 2 := by omega
          subst h2
          have hb' := hb rfl
          subst hb'
          clear hb h0' h1'
          go_wp2_with fail
          go_ret
          exact ⟨rfl, rfl⟩
  · have e : orI a b = a := if_neg ha
    rw [e]
    have hne : (a != 0) = true := by simpa using ha
    go_enter Try.func110, Try.ntmps110
    go_wp2_with fail
    go_loop [8] (fun i => i = .int .i64 0) (fun i => 0)
    case atStart => rfl
    case round =>
      subst hrel
      go_wp2_with fail
      go_ret
      exact ⟨rfl, rfl⟩
/-- how two hits compare -/
def cmpH (x y : Ht) : Int := orI (cmpI x.dist y.dist) (cmpI x.key y.key)
theorem cmpH_lt (x y : Ht) : cmpH x y < 0 ↔ ltH x y = true := by rw [ltH_iff]; exact orI_cmp _ _ _ _
set_option maxRecDepth 100000 in
set_option maxHeartbeats 2000000 in
theorem compareHits_any (w : World) (x y : Ht) : Calls Try.prog 100 #[htV x, htV y] w fun e w' => e = .returned (.int .i64 (cmpH x y)) ∧ Grew w w' := by
  obtain ⟨xk, xd⟩ := x
  obtain ⟨yk, yd⟩ := y
  show Calls Try.prog 100 #[.agg #[.int .i64 xk, .int .i64 xd], .agg #[.int .i64 yk, .int .i64 yd]] w fun e w' => e = .returned (.int .i64 (orI (cmpI xd yd) (cmpI xk yk))) ∧ Grew w w'
  have C1 := Lib.hid fun v => compare_any v xd yd
  have C2 := Lib.hid fun v => compare_any v xk yk
  obtain ⟨c1, e1⟩ : ∃ c, cmpI xd yd = c := ⟨_, rfl⟩
  obtain ⟨c2, e2⟩ : ∃ c, cmpI xk yk = c := ⟨_, rfl⟩
  rw [e1] at C1 ⊢
  rw [e2] at C2 ⊢
  clear e1 e2
  have hg1 := Grew.alloc w (.cells #[.int .i64 xk, .int .i64 xd] 32)
  have hg2 := hg1.trans (Grew.alloc _ (.cells #[.int .i64 yk, .int .i64 yd] 32))
  have k0 := cell_later (below_alloc (w.alloc (.cells #[.int .i64 xk, .int .i64 xd] 32)) (.cells #[.int .i64 yk, .int .i64 yd] 32)) (cells2_new w (.int .i64 xk) (.int .i64 xd) 32).1
  have k1 := cell_later (below_alloc (w.alloc (.cells #[.int .i64 xk, .int .i64 xd] 32)) (.cells #[.int .i64 yk, .int .i64 yd] 32)) (cells2_new w (.int .i64 xk) (.int .i64 xd) 32).2
  obtain ⟨j0, j1⟩ := cells2_new (w.alloc (.cells #[.int .i64 xk, .int .i64 xd] 32)) (.int .i64 yk) (.int .i64 yd) 32
  obtain ⟨W1, hW1⟩ : ∃ W1, (w.alloc (.cells #[.int .i64 xk, .int .i64 xd] 32)).alloc (.cells #[.int .i64 yk, .int .i64 yd] 32) = W1 := ⟨_, rfl⟩
  rw [show (w.alloc (.cells #[.int .i64 xk, .int .i64 xd] 32)).heap.size = w.heap.size + 1 by simp] at j0 j1
  rw [hW1] at hg2 k0 k1 j0 j1
  have hsz : W1.heap.size = w.heap.size + 1 + 1 := by rw [← hW1]; simp
  have OR := Lib.hid (show Calls Try.prog 110 #[.slice (some ⟨w.heap.size + 1 + 1, 0, none⟩) 2 2] (W1.drew.alloc (.cells #[.int .i64 c1, .int .i64 c2] 3)) fun e w' => e = .returned (.int .i64 (orI c1 c2)) ∧ W1.drew.alloc (.cells #[.int .i64 c1, .int .i64 c2] 3) = w' from by
    have h := cells2_new W1.drew (.int .i64 c1) (.int .i64 c2) 3
    rw [show W1.drew.heap.size = w.heap.size + 1 + 1 from hsz] at h
    exact or_any _ _ _ _ h.1 h.2)
  have HG := Lib.hid (hg2.trans ((Grew.drawn ⟨1, rfl⟩ : Grew W1 W1.drew).trans (Grew.alloc W1.drew (.cells #[.int .i64 c1, .int .i64 c2] 3))))
  clear hg1 hg2
  go_enter Try.func100, Try.ntmps100
  go_wp2_with fail
  clear hW1
  refine wp_region_still_tail 10 (by kernel_rfl) (by kernel_rfl) ?_
  simp only [List.take_succ_cons, List.take_zero, List.drop_succ_cons, List.drop_zero]
  change wpStill _ _ W1.drew (fun a' => wpList _ _ _ _ a' W1.drew) _ _
  still_step
  still_step
  still_step
  still_step
  still_call ((C1.out _).mono fun _ _ h => ⟨h.1, h.2.symm⟩)
  still_step
  still_step
  still_step
  still_step
  still_call ((C2.out _).mono fun _ _ h => ⟨h.1, h.2.symm⟩)
  refine wpStill_nil ?_
  go_wp2_with fail
  refine OR.out.mono ?_
  rintro e w' ⟨rfl, rfl⟩
  go_wp2_with fail
  go_ret
  exact ⟨rfl, HG.out⟩
end Go.Proofs.Ytmpoljhdcgdnnaa

namespace Go.Proofs.Ytmpoljhdcgdnnaa
open Go.RowKit Go.Sort Go.Shelf Go.Lib
set_option linter.unusedVariables false

def Try.sortHits_ren : Go.Shelf.Ren := ⟨fun | 6 => 99 | 15 => 109 | 14 => 108 | 28 => 122 | 29 => 123 | 20 => 114 | 21 => 115 | 22 => 116 | 23 => 117 | 24 => 118 | 25 => 119 | 26 => 120 | 27 => 121 | 46 => 125 | 47 => 126 | 48 => 127 | 49 => 128 | 50 => 129 | 57 => 131 | n => n, fun | 22 => 28 | 24 => 32 | 25 => 103 | 3 => 3 | 39 => 108 | 0 => 0 | 53 => 122 | 55 => 124 | 4 => 4 | 46 => 115 | 45 => 114 | 50 => 119 | 5 => 5 | 9 => 9 | 66 => 125 | 70 => 129 | 76 => 131 | 77 => 132 | n => n, fun | n => n⟩
theorem Try.sortHits : Go.Proofs.SlLaysF0.n6 Try.prog Try.sortHits_ren := {
  mixed := by kernel_rfl,
  f6 := ⟨Try.f99.name, by decide, Try.func99.trans (congrArg some (by kernel_rfl))⟩,
  f14 := ⟨Try.f108.name, by decide, Try.func108.trans (congrArg some (by kernel_rfl))⟩,
  f15 := Try.func109.trans (congrArg some (by kernel_rfl)),
  f20 := ⟨Try.f114.name, by decide, Try.func114.trans (congrArg some (by kernel_rfl))⟩,
  f21 := ⟨Try.f115.name, by decide, Try.func115.trans (congrArg some (by kernel_rfl))⟩,
  f22 := ⟨Try.f116.name, by decide, Try.func116.trans (congrArg some (by kernel_rfl))⟩,
  f23 := ⟨Try.f117.name, by decide, Try.func117.trans (congrArg some (by kernel_rfl))⟩,
  f24 := ⟨Try.f118.name, by decide, Try.func118.trans (congrArg some (by kernel_rfl))⟩,
  f25 := ⟨Try.f119.name, by decide, Try.func119.trans (congrArg some (by kernel_rfl))⟩,
  f26 := ⟨Try.f120.name, by decide, Try.func120.trans (congrArg some (by kernel_rfl))⟩,
  f27 := ⟨Try.f121.name, by decide, Try.func121.trans (congrArg some (by kernel_rfl))⟩,
  f28 := Try.func122.trans (congrArg some (by kernel_rfl)),
  f29 := Try.func123.trans (congrArg some (by kernel_rfl)),
  f46 := ⟨Try.f125.name, by decide, Try.func125.trans (congrArg some (by kernel_rfl))⟩,
  f47 := Try.func126.trans (congrArg some (by kernel_rfl)),
  f48 := Try.func127.trans (congrArg some (by kernel_rfl)),
  f49 := ⟨Try.f128.name, by decide, Try.func128.trans (congrArg some (by kernel_rfl))⟩,
  f50 := ⟨Try.f129.name, by decide, Try.func129.trans (congrArg some (by kernel_rfl))⟩,
  f57 := ⟨Try.f131.name, by decide, Try.func131.trans (congrArg some (by kernel_rfl))⟩,
  t0 := Try.underlying0,
  a0 := Try.isAgg0,
  z0 := Try.sizeOf0,
  v0 := Try.zeroValue0,
  t3 := Try.underlying3,
  a3 := Try.isAgg3,
  z3 := Try.sizeOf3,
  v3 := Try.zeroValue3,
  t4 := Try.underlying4,
  a4 := Try.isAgg4,
  z4 := Try.sizeOf4,
  v4 := Try.zeroValue4,
  t5 := Try.underlying5,
  a5 := Try.isAgg5,
  z5 := Try.sizeOf5,
  v5 := Try.zeroValue5,
  t9 := Try.underlying9,
  a9 := Try.isAgg9,
  z9 := Try.sizeOf9,
  v9 := Try.zeroValue9,
  t22 := Try.underlying28,
  a22 := Try.isAgg28,
  z22 := Try.sizeOf28,
  v22 := Try.zeroValue28,
  t25 := Try.underlying103,
  a25 := Try.isAgg103,
  z25 := Try.sizeOf103,
  v25 := Try.zeroValue103,
  t39 := Try.underlying108,
  a39 := Try.isAgg108,
  z39 := Try.sizeOf108,
  v39 := Try.zeroValue108,
  t45 := Try.underlying114,
  a45 := Try.isAgg114,
  z45 := Try.sizeOf114,
  v45 := Try.zeroValue114,
  t46 := Try.underlying115,
  a46 := Try.isAgg115,
  z46 := Try.sizeOf115,
  v46 := Try.zeroValue115,
  t50 := Try.underlying119,
  a50 := Try.isAgg119,
  z50 := Try.sizeOf119,
  v50 := Try.zeroValue119,
  t53 := Try.underlying122,
  a53 := Try.isAgg122,
  z53 := Try.sizeOf122,
  v53 := Try.zeroValue122,
  t55 := Try.underlying124,
  a55 := Try.isAgg124,
  z55 := Try.sizeOf124,
  v55 := Try.zeroValue124,
  t66 := Try.underlying125,
  a66 := Try.isAgg125,
  z66 := Try.sizeOf125,
  v66 := Try.zeroValue125,
  t70 := Try.underlying129,
  a70 := Try.isAgg129,
  z70 := Try.sizeOf129,
  v70 := Try.zeroValue129,
  t76 := Try.underlying131,
  a76 := Try.isAgg131,
  z76 := Try.sizeOf131,
  v76 := Try.zeroValue131,
  t77 := Try.underlying132,
  a77 := Try.isAgg132,
  z77 := Try.sizeOf132,
  v77 := Try.zeroValue132 }
instance : Inhabited Ht := ⟨Ht.no⟩
theorem ltOf_cmpH (x y : Ht) : ltOf cmpH x y = ltH x y := by
  unfold ltOf
  cases h : ltH x y
  · exact decide_eq_false fun e => by rw [cmpH_lt, h] at e; cases e
  · exact decide_eq_true ((cmpH_lt x y).2 h)
theorem swoH : SWO (ltOf cmpH) where
  irrefl x := by rw [ltOf_cmpH, ltH_no]; omega
  trans x y z h1 h2 := by rw [ltOf_cmpH] at *; exact ltH_trans h1 h2
  ntrans x y z h1 h2 := by rw [ltOf_cmpH, ltH_no] at *; omega
theorem totH (x y : Ht) (h1 : ltOf cmpH x y = false) (h2 : ltOf cmpH y x = false) : x = y := by
  rw [ltOf_cmpH, ltH_no] at *
  obtain ⟨xk, xd⟩ := x
  obtain ⟨yk, yd⟩ := y
  have e1 : xk = yk := by show xk = yk; dsimp only at h1 h2; omega
  have e2 : xd = yd := by show xd = yd; dsimp only at h1 h2; omega
  rw [e1, e2]
/-- a row that holds hits reads as them -/
theorem hits_of_holdsK {w : World} {g : Nat} {l : List Ht} (h : HoldsK htCells 2 w g 0 l.toArray) (hlen : l.length ≤ 9223372036854775807) : Hits w g (g + 1) (some ⟨g, 0, none⟩) l := by
  refine ⟨fun _ => ⟨g, 0, rfl, Nat.le_refl _, Nat.lt_succ_self _, fun j hj => ?_⟩, hlen⟩
  have hj' : j < l.toArray.size := by simpa using hj
  have h0 := (h.cell hj' (show 0 < 2 by omega)).1
  have h1 := (h.cell hj' (show 1 < 2 by omega)).1
  have e : l.toArray[j]! = l.getD j Ht.no := by
    rw [getElem!_pos l.toArray j hj', List.getD_eq_getElem?_getD, List.getElem?_eq_getElem hj]
    rfl
  rw [e] at h0 h1
  exact ⟨h0, h1⟩
def SortedH (w : World) (g : Nat) (L : List Ht) (e : Ending) (w' : World) : Prop :=
  e = .returned (.tuple #[]) ∧ Upd g (g + 1) w w' ∧ Hits w' g (g + 1) (some ⟨g, 0, none⟩) (L.mergeSort fun x y => !ltH y x)
theorem sortHits (w : World) (base g n cap : Nat) (L : List Ht) (ho : w.ownsRow base 32 2 (.slice (some ⟨g, 0, none⟩) n cap) n (flatH L)) (hn : n ≤ 1000000) :
    Calls Try.prog 99 #[.slice (some ⟨g, 0, none⟩) n cap, .func (.func 100) #[] #[]] w (SortedH w g L) := by
  have hl : L.length = n := by have := ho.1; rw [flatH_length] at this; omega
  have hsz : L.toArray.size = n := by simpa using hl
  have hg := (ho.lt g rfl).2
  have eg : ∀ args w, (callFunc 100 args).run Try.prog w = .ok (.enter 100 args) w := enters_of Try.func100 (by kernel_rfl) rfl
  have hH : HoldsK htCells 2 w g 0 L.toArray := holdsK_of_owns htCells (fun _ => rfl) L.toArray hsz ho
  have hcon := AnyQ.slices_SortFunc_total Try.sortHits 2 Try.isAgg32 Try.sizeOf32 htCells (fun _ => rfl) htCells_one cmpH swoH 100 #[] g 0 cap L.toArray w eg (fun _ _ _ _ x y => compareHits_any _ x y) hH hg (by omega) totH
  rw [hsz] at hcon
  refine Calls.mono (show Calls Try.prog 99 _ _ _ from hcon) ?_
  rintro e w' ⟨rfl, m, os, rfl⟩
  have hfun : (fun x y => !(ltOf cmpH) y x) = fun x y => !ltH y x := by funext x y; rw [ltOf_cmpH]
  have e : (L.toArray.toList.mergeSort fun x y => !(ltOf cmpH) y x) = L.mergeSort fun x y => !ltH y x := by rw [hfun]
  rw [e]
  refine ⟨rfl, upd_sort _ _ _ _ _ _ _ _ hg, hits_of_holdsK ?_ (by rw [List.length_mergeSort]; omega)⟩
  exact holdsK_sortWorldK_c htCells 2 w g 0 L.toArray _ m os hH hg (by simp)
/-- the first hits of a sorted row, in new memory -/
def FirstPost (w : World) (g : Nat) (R : List Ht) (e : Ending) (w' : World) : Prop :=
  ∃ a cap, e = .returned (.slice a R.length cap) ∧ HitsO w' w.heap.size w'.heap.size a R ∧ Cap R.length cap ∧ Upd g (g + 1) w w'
set_option maxHeartbeats 1000000 in
theorem firstHits_any (w : World) (base g n cap k : Nat) (L : List Ht) (ho : w.ownsRow base 32 2 (.slice (some ⟨g, 0, none⟩) n cap) n (flatH L)) (hn : n ≤ 1000000) (hk : k ≤ 1000000) :
    Calls Try.prog 82 #[.slice (some ⟨g, 0, none⟩) n cap, .int .i64 (k : Int)] w (FirstPost w g ((L.mergeSort fun x y => !ltH y x).take k)) := by
  have hl : L.length = n := by have := ho.1; rw [flatH_length] at this; omega
  have hc := owns_cap ho
  have hc1 := hc.1
  have hc2 := hc.2
  have SO := Lib.hid (sortHits w base g n cap L ho hn)
  have HL : Hid ((L.mergeSort fun x y => !ltH y x).length = n) := Lib.hid (by rw [List.length_mergeSort, hl])
  obtain ⟨S, eS⟩ : ∃ S, (L.mergeSort fun x y => !ltH y x) = S := ⟨_, rfl⟩
  unfold SortedH at SO
  rw [eS] at SO HL ⊢
  clear eS hl hc ho
  by_cases hkn : k ≤ n
  · have hmin : min (k : Int) (n : Int) = (k : Int) := by omega
    have HT : Hid ((S.take k).length = k) := Lib.hid (by rw [List.length_take, HL.out]; omega)
    go_enter Try.func82, Try.ntmps82
    go_wp2_with fail
    refine SO.out.mono ?_
    rintro e w2 ⟨rfl, hu, hh⟩
    have HU := Lib.hid hu
    have hs2 := hu.size
    have HO := Lib.hid (owns_empty w2 w.heap.size 32 2 hs2)
    have HN := Lib.hid ((hh.below (below_alloc w2 (.cells #[] 32))).take k).vals
    have hsa : w.heap.size ≤ (w2.alloc (.cells #[] 32)).heap.size := by simp; omega
    clear hu hh
    go_wp2_with (at_builtin; refine appendN rfl _ _ 28 rfl w.heap.size 32 Try.underlying28 infoHit rfl (by omega) (by omega) (.slice (some ⟨w2.heap.size, 0, none⟩) 0 0) 0 [] rfl HO.out ⟨g, 0, none⟩ k cap (flatH (S.take k)) rfl (by rw [flatH_length, HT.out]) HN.out (flatH_cells _) (by omega) hsa ?_; intro v' w6 hown6 hg6; have HO6 := Lib.hid hown6; have HG6 := Lib.hid hg6; clear hown6 hg6)
    (try simp only [Exit.inBlock, Exit.then])
    go_ret
    have ho6 := HO6.out
    rw [List.nil_append] at ho6
    obtain ⟨a, c, hv, h1, h2⟩ := hitsO_of_owns ho6 (by omega)
    refine ⟨a, c, by rw [← hv]; rfl, h1, h2, (HU.out.trans (Upd.alloc w2 _)).grow HG6.out (fun q hq => ?_)⟩
    have := (HO.out.lt q hq).1
    omega
  · have hmin : min (k : Int) (n : Int) = (n : Int) := by omega
    have HT : Hid (S.take k = S) := Lib.hid (List.take_of_length_le (by rw [HL.out]; omega))
    rw [HT.out]
    go_enter Try.func82, Try.ntmps82
    go_wp2_with fail
    refine SO.out.mono ?_
    rintro e w2 ⟨rfl, hu, hh⟩
    have HU := Lib.hid hu
    have hs2 := hu.size
    have HO := Lib.hid (owns_empty w2 w.heap.size 32 2 hs2)
    have HN := Lib.hid (hh.below (below_alloc w2 (.cells #[] 32))).vals
    have hsa : w.heap.size ≤ (w2.alloc (.cells #[] 32)).heap.size := by simp; omega
    clear hu hh
    go_wp2_with (at_builtin; refine appendN rfl _ _ 28 rfl w.heap.size 32 Try.underlying28 infoHit rfl (by omega) (by omega) (.slice (some ⟨w2.heap.size, 0, none⟩) 0 0) 0 [] rfl HO.out ⟨g, 0, none⟩ n cap (flatH S) rfl (by rw [flatH_length, HL.out]) HN.out (flatH_cells _) (by omega) hsa ?_; intro v' w6 hown6 hg6; have HO6 := Lib.hid hown6; have HG6 := Lib.hid hg6; clear hown6 hg6)
    (try simp only [Exit.inBlock, Exit.then])
    go_ret
    have ho6 := HO6.out
    rw [List.nil_append] at ho6
    obtain ⟨a, c, hv, h1, h2⟩ := hitsO_of_owns ho6 (by omega)
    refine ⟨a, c, by rw [← hv]; rfl, h1, h2, (HU.out.trans (Upd.alloc w2 _)).grow HG6.out (fun q hq => ?_)⟩
    have := (HO.out.lt q hq).1
    omega
theorem lstI_succ (kind : Int) (m : List Int) (ll : List It) (j : Nat) : lstN (htsI kind m ll) (j + 1) = lstN (htsI kind m ll) j ++ [⟨(ll.getD j It.no).key, dst kind (ll.getD j It.no).pos m 4⟩] := lstN_succ _ _
theorem nrI_eq {kind : Int} {m : List Int} {ll : List It} (h : NoDup ll) (k : Nat) : ((lstN (htsI kind m ll) ll.length).mergeSort fun x y => !ltH y x).take k = nrI kind m ll k := by
  unfold nrI nrN
  rw [lstN_sort (h.keys kind m)]
set_option maxRecDepth 100000 in
set_option maxHeartbeats 4000000 in
theorem implNearest_in (w : World) (lo hi lo' hi' : Nat) (a b : Option Addr) (cap capm k : Nat) (kind : Int) (ll : List It) (m : List Int) (hI : Items w lo hi a ll) (hB : Ints w lo' hi' b m) (hv : ∀ j, j < ll.length → vecB (ll.getD j It.no).pos 4 = true) (hm : vecB m 4 = true) (hn : ll.length ≤ 1000) (hk : k ≤ 1000) (hd : NoDup ll) :
    Calls Try.prog 51 #[.slice a ll.length cap, .int .i64 kind, .slice b m.length capm, .int .i64 (k : Int)] w (NewHits w (nrI kind m ll k)) := by
  have HV := Lib.hid (And.intro hv hm)
  have HAB := Lib.hid (And.intro hI hB)
  have HD := Lib.hid (nrI_eq (kind := kind) (m := m) hd k)
  have HE := Lib.hid (owns_empty w w.heap.size 32 2 (Nat.le_refl _))
  clear hv hm hI hB hd
  go_enter Try.func51, Try.ntmps51
  go_wp2_with fail
  go_loopw [9, 15] (fun v i wr => ∃ j : Nat, j ≤ ll.length ∧ i = .int .i64 (j : Int) ∧ Hid (wr.ownsRow w.heap.size 32 2 v j (flatH (lstN (htsI kind m ll) j)) ∧ (v = .slice none 0 0 → False)) ∧ Hid (Below w.heap.size w wr)) (fun _ i _ => ll.length - (intOf i).toNat)
  case atStart => exact ⟨0, Nat.zero_le _, rfl, Lib.hid ⟨HE.out, by simp⟩, Lib.hid (below_alloc _ _)⟩
  case round =>
    obtain ⟨j, hj, rfl, HO, HX⟩ := hrel
    have hsx := HX.out.size
    by_cases hlt : j < ll.length
    · obtain ⟨bb, off, rfl, _, _, aj, cj, c0, c1, c2, hx, hcj, hk1, hk2⟩ := (HAB.out.1.below HX.out).at_ hlt
      have VX := Lib.hid (HV.out.1 j hlt)
      have HS := Lib.hid (lstI_succ kind m ll j)
      obtain ⟨x, ex⟩ : ∃ x, ll.getD j It.no = x := ⟨_, rfl⟩
      rw [ex] at c0 c1 c2 hx hcj hk1 hk2 VX HS
      clear ex
      have hx4 : x.pos.length = 4 := by have := vecB_len VX.out; omega
      have hm4 : m.length = 4 := by have := vecB_len HV.out.2; omega
      have hb := below_alloc wr (.cells #[.int .i64 x.key, .slice aj x.pos.length cj, .int .i64 x.tags] 74)
      obtain ⟨d0, d1, d2⟩ := cells3_new wr (.int .i64 x.key) (.slice aj x.pos.length cj) (.int .i64 x.tags) 74
      have D := Lib.hid (implDistance (wr.alloc (.cells #[.int .i64 x.key, .slice aj x.pos.length cj, .int .i64 x.tags] 74)).drew _ _ _ _ _ _ cj capm x.pos m kind ((hx.below hb).drawn ⟨1, rfl⟩) (((HAB.out.2.below HX.out).below hb).drawn ⟨1, rfl⟩) (vecB_coords VX.out) (vecB_coords HV.out.2) (by omega) (by omega))
      rw [hx4] at D d1 c1
      rw [hx4] at hb d0 d2
      obtain ⟨d, ed⟩ : ∃ d, dst kind x.pos m 4 = d := ⟨_, rfl⟩
      rw [ed] at D HS
      have hji : (j : Int) < ll.length := by omega
      obtain ⟨W1, hW1⟩ : ∃ W1, wr.alloc (.cells #[.int .i64 x.key, .slice aj 4 cj, .int .i64 x.tags] 74) = W1 := ⟨_, rfl⟩
      rw [hW1] at D d0 d1 d2 hb
      have HBW := Lib.hid hb
      have HD01 := Lib.hid (And.intro d0 d1)
      clear hcj hk1 hk2 hx ed hb hm4
      go_wp2_with fail
      clear hW1 c0 c1 c2
      go_region_law (first
        | (refine step_append_at rfl (.tmp 19) (.tmp 28) 28 rfl w.heap.size 32 Try.underlying28 infoHit rfl (by omega) (by omega) _ j (flatH (lstN (htsI kind m ll) j)) rfl (HO3.out.alloc _) ⟨w3.heap.size, 0, none⟩ 1 1 [.int .i64 x.key, .int .i64 d] rfl rfl (news2_new w3 _ _ _) (htCells_one ⟨x.key, d⟩) (by omega) (by simp; omega) ?_
           intro v7 w7 hown7 hg7 hv7
           have HB7 : Hid (Below w.heap.size w w7) := Lib.hid ((HX3.out.alloc hs3 _).grown hg7 (by simp; omega) (owns_block HO3.out))
           have HO7 := Lib.hid hown7
           have HV7 := Lib.hid hv7
           clear hown7 hg7 hv7)
        | (go_simp; go_at_call 70; refine D.out.mono ?_; rintro e w3 ⟨rfl, hd3⟩; have e0 := hd3.cell HD01.out.1; have e1 := hd3.cell HD01.out.2; have HX3 : Hid (Below w.heap.size w w3) := Lib.hid ((HX.out.trans (HBW.out.mono hsx)).trans (Drawn.below ((drawn_drew W1).trans hd3))); have hs3 := HX3.out.size; have HO3 := Lib.hid (owns_upd HO.out.1 ((Upd.of_below HBW.out).trans (((drawn_drew W1).trans hd3).upd (lo := 0) (hi := 0))) (by omega)); clear hd3))
      all_goals clear d0 d1 d2 e0 e1
      all_goals (
        go_wp2_with fail
        go_roundw
        case rel => exact ⟨j + 1, by omega, by go_num, Lib.hid ⟨by rw [HS.out, flatH_app, flatH_one]; exact HO7.out, fun e => by have := (HV7.out.1 e).2; omega⟩, HB7⟩
        case measure => simp [intOf]; omega)
    · have hje : j = ll.length := by omega
      subst hje
      obtain ⟨ho, hnn⟩ := HO.out
      have hform : ∃ g cap, u9 = .slice (some ⟨g, 0, none⟩) ll.length cap ∧ w.heap.size ≤ g := by
        rcases ho.2 with ⟨hv, _⟩ | ⟨g, c', cur, hv, hb, _⟩
        · exact absurd hv hnn
        · exact ⟨g, c', hv, hb⟩
      obtain ⟨g, c, rfl, hg⟩ := hform
      have FH := Lib.hid (firstHits_any wr w.heap.size g ll.length c k _ ho (by omega) (by omega))
      rw [HD.out] at FH
      clear ho hnn HO
      go_wp2_with fail
      refine FH.out.mono ?_
      rintro e w3 ⟨a3, c3, rfl, h1, h2, h3⟩
      have HF := Lib.hid (And.intro h1 (And.intro h2 h3))
      clear h1 h2 h3
      go_wp2_with fail
      go_ret
      obtain ⟨h1, h2, h3⟩ := HF.out
      exact ⟨a3, c3, rfl, h1.wide hsx (Nat.le_refl _), h2, HX.out.trans (h3.low hg hsx)⟩
theorem nrI_succ (kind : Int) (m : List Int) (ll : List It) (k j : Nat) : nrN (htsI kind m ll) k (j + 1) = (insH ⟨(ll.getD j It.no).key, dst kind (ll.getD j It.no).pos m 4⟩ (nrN (htsI kind m ll) k j)).take k := nrN_succ _ _ _
set_option maxRecDepth 100000 in
set_option maxHeartbeats 4000000 in
theorem specNearest_in (w : World) (lo hi lo' hi' : Nat) (a b : Option Addr) (cap capm k : Nat) (kind : Int) (ll : List It) (m : List Int) (hI : Items w lo hi a ll) (hB : Ints w lo' hi' b m) (hv : ∀ j, j < ll.length → vecB (ll.getD j It.no).pos 4 = true) (hm : vecB m 4 = true) (hn : ll.length ≤ 1000) (hk : k ≤ 1000) (hd : NoDup ll) :
    Calls Try.prog 59 #[.slice a ll.length cap, .int .i64 kind, .slice b m.length capm, .int .i64 (k : Int)] w (NewHits w (nrI kind m ll k)) := by
  have HV := Lib.hid (And.intro hv hm)
  have HAB := Lib.hid (And.intro hI hB)
  have HSR := Lib.hid fun j (hj : j ≤ ll.length) => nrN_srt ((hd.keys kind m).less hj) k
  have HLN := Lib.hid (nrN_length (htsI kind m ll) k)
  clear hv hm hI hB hd
  go_enter Try.func59, Try.ntmps59
  go_wp2_with fail
  go_loopw [9, 10] (fun v i wr => ∃ j p cp : Nat, j ≤ ll.length ∧ v = .slice (some ⟨p, 0, none⟩) (nrN (htsI kind m ll) k j).length cp ∧ i = .int .i64 (j : Int) ∧ Hid (HitsO wr w.heap.size wr.heap.size (some ⟨p, 0, none⟩) (nrN (htsI kind m ll) k j) ∧ Cap (nrN (htsI kind m ll) k j).length cp) ∧ Hid (Below w.heap.size w wr)) (fun _ i _ => ll.length - (intOf i).toNat)
  case atStart => exact ⟨0, _, _, Nat.zero_le _, by rw [show nrN (htsI kind m ll) k 0 = [] from List.take_nil]; rfl, rfl, Lib.hid (by rw [show nrN (htsI kind m ll) k 0 = [] from List.take_nil]; exact ⟨hitsO_nil _ _ _ _, by simp, by omega⟩), Lib.hid (below_alloc _ _)⟩
  case round =>
    obtain ⟨j, p, cp, hj, rfl, rfl, HO, HX⟩ := hrel
    have hsx := HX.out.size
    by_cases hlt : j < ll.length
    · obtain ⟨bb, off, rfl, _, _, aj, cj, c0, c1, c2, hx, hcj, hk1, hk2⟩ := (HAB.out.1.below HX.out).at_ hlt
      have VX := Lib.hid (HV.out.1 j hlt)
      have HS := Lib.hid (nrI_succ kind m ll k j)
      have HSJ := Lib.hid (HSR.out j (by omega))
      have HLJ := Lib.hid (HLN.out j)
      have HOO := Lib.hid HO.out.1.1
      obtain ⟨x, ex⟩ : ∃ x, ll.getD j It.no = x := ⟨_, rfl⟩
      rw [ex] at c0 c1 c2 hx hcj hk1 hk2 VX HS
      clear ex
      have hx4 : x.pos.length = 4 := by have := vecB_len VX.out; omega
      have hm4 : m.length = 4 := by have := vecB_len HV.out.2; omega
      have D := Lib.hid (specDist wr.drew _ _ _ _ _ _ cj capm x.pos m kind (hx.drawn (drawn_drew wr)) ((HAB.out.2.below HX.out).drawn (drawn_drew wr)) (vecB_coords VX.out) (vecB_coords HV.out.2) (by omega) (by omega))
      rw [hx4] at D c1
      obtain ⟨d, ed⟩ : ∃ d, dst kind x.pos m 4 = d := ⟨_, rfl⟩
      rw [ed] at D HS
      have hji : (j : Int) < ll.length := by omega
      have A1 := Lib.hid fun w' (dd : Drawn wr.drew w') => addHit_any w' _ _ p 0 cp _ ⟨x.key, d⟩ k (HOO.out.drawn ((drawn_drew wr).trans dd)) HSJ.out (by rw [HLJ.out]; omega) (by omega)
      rw [← HS.out] at A1
      obtain ⟨n, en⟩ : ∃ n, (nrN (htsI kind m ll) k j).length = n := ⟨_, rfl⟩
      rw [en] at A1 ⊢
      have HC01 := Lib.hid (And.intro c0 c1)
      clear hcj hk1 hk2 hx ed hm4 c2 en hx4
      go_wp2_with fail
      go_region_law (first
        | (go_simp; go_at_call 86; refine (A1.out w3 HD3.out).mono ?_; rintro e w4 ⟨g, cg, rfl, hh, hcap, hb⟩; have HH4 := Lib.hid (And.intro hh hcap); have HX4 : Hid (Below w.heap.size w w4) := Lib.hid (HX3.out.trans (hb.mono hs3)); clear hh hcap hb)
        | (go_simp; go_at_call 87; refine D.out.mono ?_; rintro e w3 ⟨rfl, hd3⟩; have e0 := hd3.cell HC01.out.1; have e1 := hd3.cell HC01.out.2; have HX3 : Hid (Below w.heap.size w w3) := Lib.hid (HX.out.trans (Drawn.below ((drawn_drew wr).trans hd3))); have hs3 := HX3.out.size; have HD3 := Lib.hid hd3; clear hd3))
      all_goals clear c0 c1 e0 e1
      all_goals (
        go_wp2_with fail
        go_roundw
        case rel => exact ⟨j + 1, g, cg, by omega, rfl, by go_num, Lib.hid ⟨HH4.out.1.wide (by omega) (Nat.le_refl _), HH4.out.2⟩, HX4⟩
        case measure => simp [intOf]; omega)
    · have hje : j = ll.length := by omega
      subst hje
      go_wp2_with fail
      go_ret
      exact ⟨_, cp, rfl, HO.out.1, HO.out.2, HX.out⟩
end Go.Proofs.Ytmpoljhdcgdnnaa
