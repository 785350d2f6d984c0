/-
  What the program's sort of items does to a row of the call's own.
-/
import Derived.Test.YtlammenejgagdaaTreeItems
namespace Go.Proofs.Ytlammenejgagdaa
open Go.RowKit Go.Sort Go.Shelf Go.Lib
set_option linter.unusedVariables false

def Try.sortIts_ren : Go.Shelf.Ren := ⟨fun | 6 => 50 | 15 => 72 | 14 => 71 | 28 => 95 | 29 => 96 | 20 => 87 | 21 => 88 | 22 => 89 | 23 => 90 | 24 => 91 | 25 => 92 | 26 => 93 | 27 => 94 | 46 => 107 | 47 => 108 | 48 => 109 | 49 => 110 | 50 => 111 | 57 => 116 | n => n, fun | 22 => 24 | 24 => 39 | 25 => 73 | 3 => 3 | 39 => 86 | 0 => 0 | 53 => 105 | 55 => 107 | 4 => 4 | 46 => 98 | 45 => 97 | 50 => 102 | 5 => 5 | 9 => 9 | 66 => 114 | 70 => 118 | 76 => 123 | 77 => 124 | n => n, fun | n => n⟩
theorem Try.sortIts : Go.Proofs.SlLaysF0.n6 Try.prog Try.sortIts_ren := {
  mixed := by kernel_rfl,
  f6 := ⟨Try.f50.name, by decide, Try.func50.trans (congrArg some (by kernel_rfl))⟩,
  f14 := ⟨Try.f71.name, by decide, Try.func71.trans (congrArg some (by kernel_rfl))⟩,
  f15 := Try.func72.trans (congrArg some (by kernel_rfl)),
  f20 := ⟨Try.f87.name, by decide, Try.func87.trans (congrArg some (by kernel_rfl))⟩,
  f21 := ⟨Try.f88.name, by decide, Try.func88.trans (congrArg some (by kernel_rfl))⟩,
  f22 := ⟨Try.f89.name, by decide, Try.func89.trans (congrArg some (by kernel_rfl))⟩,
  f23 := ⟨Try.f90.name, by decide, Try.func90.trans (congrArg some (by kernel_rfl))⟩,
  f24 := ⟨Try.f91.name, by decide, Try.func91.trans (congrArg some (by kernel_rfl))⟩,
  f25 := ⟨Try.f92.name, by decide, Try.func92.trans (congrArg some (by kernel_rfl))⟩,
  f26 := ⟨Try.f93.name, by decide, Try.func93.trans (congrArg some (by kernel_rfl))⟩,
  f27 := ⟨Try.f94.name, by decide, Try.func94.trans (congrArg some (by kernel_rfl))⟩,
  f28 := Try.func95.trans (congrArg some (by kernel_rfl)),
  f29 := Try.func96.trans (congrArg some (by kernel_rfl)),
  f46 := ⟨Try.f107.name, by decide, Try.func107.trans (congrArg some (by kernel_rfl))⟩,
  f47 := Try.func108.trans (congrArg some (by kernel_rfl)),
  f48 := Try.func109.trans (congrArg some (by kernel_rfl)),
  f49 := ⟨Try.f110.name, by decide, Try.func110.trans (congrArg some (by kernel_rfl))⟩,
  f50 := ⟨Try.f111.name, by decide, Try.func111.trans (congrArg some (by kernel_rfl))⟩,
  f57 := ⟨Try.f116.name, by decide, Try.func116.trans (congrArg some (by kernel_rfl))⟩,
  t0 := Try.underlying0,
  a0 := Try.isAgg0,
  z0 := Try.sizeOf0,
  v0 := Try.zeroValue0,
  t3 := Try.underlying3,
  a3 := Try.isAgg3,
  z3 := Try.sizeOf3,
  v3 := Try.zeroValue3,
  t4 := Try.underlying4,
  a4 := Try.isAgg4,
  z4 := Try.sizeOf4,
  v4 := Try.zeroValue4,
  t5 := Try.underlying5,
  a5 := Try.isAgg5,
  z5 := Try.sizeOf5,
  v5 := Try.zeroValue5,
  t9 := Try.underlying9,
  a9 := Try.isAgg9,
  z9 := Try.sizeOf9,
  v9 := Try.zeroValue9,
  t22 := Try.underlying24,
  a22 := Try.isAgg24,
  z22 := Try.sizeOf24,
  v22 := Try.zeroValue24,
  t25 := Try.underlying73,
  a25 := Try.isAgg73,
  z25 := Try.sizeOf73,
  v25 := Try.zeroValue73,
  t39 := Try.underlying86,
  a39 := Try.isAgg86,
  z39 := Try.sizeOf86,
  v39 := Try.zeroValue86,
  t45 := Try.underlying97,
  a45 := Try.isAgg97,
  z45 := Try.sizeOf97,
  v45 := Try.zeroValue97,
  t46 := Try.underlying98,
  a46 := Try.isAgg98,
  z46 := Try.sizeOf98,
  v46 := Try.zeroValue98,
  t50 := Try.underlying102,
  a50 := Try.isAgg102,
  z50 := Try.sizeOf102,
  v50 := Try.zeroValue102,
  t53 := Try.underlying105,
  a53 := Try.isAgg105,
  z53 := Try.sizeOf105,
  v53 := Try.zeroValue105,
  t55 := Try.underlying107,
  a55 := Try.isAgg107,
  z55 := Try.sizeOf107,
  v55 := Try.zeroValue107,
  t66 := Try.underlying114,
  a66 := Try.isAgg114,
  z66 := Try.sizeOf114,
  v66 := Try.zeroValue114,
  t70 := Try.underlying118,
  a70 := Try.isAgg118,
  z70 := Try.sizeOf118,
  v70 := Try.zeroValue118,
  t76 := Try.underlying123,
  a76 := Try.isAgg123,
  z76 := Try.sizeOf123,
  v76 := Try.zeroValue123,
  t77 := Try.underlying124,
  a77 := Try.isAgg124,
  z77 := Try.sizeOf124,
  v77 := Try.zeroValue124 }
theorem ltOf_cmpIt (kind : Int) (m : List Int) (y z : It) : decide (cmpIt kind m y z < 0) = ltI kind m y z := by
  cases h : ltI kind m y z
  · exact decide_eq_false fun e => by rw [cmpIt_lt, h] at e; cases e
  · exact decide_eq_true ((cmpIt_lt kind m y z).2 h)
/-- the block of a sorted row -/
theorem block_sort {α : Type} [Inhabited α] (enc : α → List Value) (k : Nat) (w : World) (blk off m : Nat) (d : Array α) (os : Array Obj) {c : Array Value} {t : TypeId} (h : w.heap[blk]? = some (.cells c t (0, 0))) : ∃ c', (sortWorldK enc k w blk off m d os).heap[blk]? = some (.cells c' t (0, 0)) := by
  have hb : blk < w.heap.size := (Array.getElem?_eq_some_iff.1 h).1
  have e : w.heap[blk] = .cells c t (0, 0) := (Array.getElem?_eq_some_iff.1 h).2
  refine ⟨putCells id off (flatK enc k d) c, ?_⟩
  simp [sortWorldK, Go.Sort.grow, putRowK, putRow, mapBlock, Array.getElem?_append, hb]
  rw [Array.getElem_modify, if_pos rfl]
  show onCells _ w.heap[blk] = _
  rw [e]
  rfl
/-- a row that holds items reads as them -/
theorem itemsB_of_holdsK {α : Type} [Inhabited α] (val : α → Itv) {w : World} {g base : Nat} {l : List α} (h : HoldsK (fun a => itvCells (val a)) 3 w g 0 l.toArray) (hb : ∃ c, w.heap[g]? = some (.cells c 39 (0, 0))) (hlen : l.length ≤ 9223372036854775807)
    (hok : ∀ a ∈ l, ItV w 0 base (val a).it (val a).at_ (val a).cap) : ItemsB w base (some ⟨g, 0, none⟩) (l.map fun a => (val a).it) := by
  obtain ⟨c, hc⟩ := hb
  refine ⟨fun _ => ⟨g, 0, rfl, (Array.getElem?_eq_some_iff.1 hc).1, .inr ⟨c, hc⟩, fun j hj => ?_⟩, by rw [List.length_map]; exact hlen⟩
  rw [List.length_map] at hj
  have hj' : j < l.toArray.size := by simpa using hj
  have h0 := (h.cell hj' (show 0 < 3 by omega)).1
  have h1 := (h.cell hj' (show 1 < 3 by omega)).1
  have h2 := (h.cell hj' (show 2 < 3 by omega)).1
  have e : l.toArray[j]! = l[j] := by
    rw [getElem!_pos l.toArray j hj']
    rfl
  rw [e] at h0 h1 h2
  have e2 : (l.map fun a => (val a).it).getD j It.no = (val l[j]).it := by
    rw [List.getD_eq_getElem?_getD, List.getElem?_map, List.getElem?_eq_getElem hj]; rfl
  rw [e2]
  exact ⟨_, _, h0, h1, h2, hok _ (List.getElem_mem _)⟩
def SortedI (w : World) (base g : Nat) (R : List It) (e : Ending) (w' : World) : Prop :=
  e = .returned (.tuple #[]) ∧ Upd g (g + 1) w w' ∧ ItemsB w' base (some ⟨g, 0, none⟩) R
theorem sortItems (w : World) (lo base g n cap K T : Nat) (kind : Int) (x : It) (ax : Option Addr) (cx : Nat) (L : List Itv) (ho : w.ownsRow lo 39 3 (.slice (some ⟨g, 0, none⟩) n cap) n (flatI L)) (hn : n ≤ 1000000) (hok : ItvOk w 0 base L) (hv : ∀ v ∈ L, vecB v.it.pos 4 = true)
    (hx : Ints w 0 base ax x.pos) (vx : vecB x.pos 4 = true) (hK : w.cell? ⟨K, 0, none⟩ = some (.int .i64 kind)) (hT : w.cell? ⟨T, 1, none⟩ = some (.slice ax 4 cx)) (hKg : K ≠ g) (hTg : T ≠ g) (hbg : base ≤ g) (hkeys : L.Pairwise fun a b => a.it.key ≠ b.it.key) :
    Calls Try.prog 50 #[.slice (some ⟨g, 0, none⟩) n cap, .func (.func 51) #[] #[.pointer (some ⟨K, 0, none⟩), .pointer (some ⟨T, 0, none⟩)]] w (SortedI w base g (byD kind x.pos (L.map Itv.it))) := by
  have hl : L.length = n := by have := ho.1; rw [flatI_length] at this; omega
  have hg := (ho.lt g rfl).2
  have hitem : ∃ c, w.heap[g]? = some (.cells c 39 (0, 0)) := by
    rcases ho.2 with ⟨h1, _⟩ | ⟨g', cap', cur, h1, hb, hg, _⟩
    · cases h1
    · simp only [Value.slice.injEq, Option.some.injEq, Addr.mk.injEq] at h1
      obtain ⟨⟨rfl, _⟩, _⟩ := h1
      exact ⟨cur, hg⟩
  by_cases h0 : n = 0
  · subst h0
    have hL : L = [] := List.eq_nil_of_length_eq_zero hl
    subst hL
    refine Calls.mono (show Calls Try.prog 50 _ _ _ from AnyF.slices_SortFunc_none Try.sortIts (some ⟨g, 0, none⟩) cap _ w) ?_
    rintro e w' ⟨rfl, rfl⟩
    exact ⟨rfl, Upd.refl _ _ _, ItemsB.nil _ _ _⟩
  · have hmem : L.getD 0 Itv.no ∈ L := itv_mem (by omega)
    letI : Inhabited {v : Itv // v ∈ L} := ⟨⟨L.getD 0 Itv.no, hmem⟩⟩
    have hsz : L.attach.toArray.size = n := by simpa using hl
    have eg : ∀ args w, (callFunc 51 args).run Try.prog w = .ok (.enter 51 args) w := enters_of Try.func51 (by kernel_rfl) rfl
    have hcells : flatI L = L.attach.toArray.toList.flatMap fun v : {v : Itv // v ∈ L} => itvCells v.1 := by
      show _ = L.attach.flatMap _
      rw [show flatI L = (L.attach.map Subtype.val).flatMap itvCells by rw [List.attach_map_subtype_val]; rfl, List.flatMap_map]
    have hH : HoldsK (fun v : {v : Itv // v ∈ L} => itvCells v.1) 3 w g 0 L.attach.toArray := holdsK_of_owns (fun v : {v : Itv // v ∈ L} => itvCells v.1) (fun _ => rfl) L.attach.toArray hsz (by rw [← hcells]; exact ho)
    have hlt : ∀ a b : {v : Itv // v ∈ L}, ltOf (fun a b : {v : Itv // v ∈ L} => cmpIt kind x.pos a.1.it b.1.it) a b = ltI kind x.pos a.1.it b.1.it := fun a b => ltOf_cmpIt kind x.pos a.1.it b.1.it
    have hswo : SWO (ltOf fun a b : {v : Itv // v ∈ L} => cmpIt kind x.pos a.1.it b.1.it) :=
      ⟨fun a => by rw [hlt]; exact ltH_irr _, fun a b c h1 h2 => by rw [hlt] at *; exact ltH_trans h1 h2, fun a b c h1 h2 => by rw [hlt] at *; exact ltH_weak h2 h1⟩
    have htot : ∀ a b : {v : Itv // v ∈ L}, ltOf (fun a b : {v : Itv // v ∈ L} => cmpIt kind x.pos a.1.it b.1.it) a b = false → ltOf (fun a b : {v : Itv // v ∈ L} => cmpIt kind x.pos a.1.it b.1.it) b a = false → a = b := fun a b h1 h2 => by
      rw [hlt] at h1 h2
      have hk : a.1.it.key = b.1.it.key := Decidable.byContradiction fun hne => by rw [ltI_total h2 hne] at h1; cases h1
      obtain ⟨i, hi, e1⟩ := List.getElem_of_mem a.2
      obtain ⟨j, hj, e2⟩ := List.getElem_of_mem b.2
      have hp := List.pairwise_iff_getElem.1 hkeys
      rcases Nat.lt_trichotomy i j with h | h | h
      · exact absurd (by rw [e1, e2]; exact hk) (hp i j hi hj h)
      · subst h; exact Subtype.ext (e1.symm.trans e2)
      · exact absurd (by rw [e1, e2]; exact hk.symm) (hp j i hj hi h)
    have hcmp : CmpLays Try.prog 51 #[.pointer (some ⟨K, 0, none⟩), .pointer (some ⟨T, 0, none⟩)] (fun v : {v : Itv // v ∈ L} => itvCells v.1) 3 (fun a b : {v : Itv // v ∈ L} => cmpIt kind x.pos a.1.it b.1.it) g 0 L.attach.toArray.size w := fun m os dk _ y z => by
      have u := upd_sort (fun v : {v : Itv // v ∈ L} => itvCells v.1) 3 w g 0 m dk os hg
      have vy := hv _ y.2
      have vz := hv _ z.2
      have h := itemCmp (sortWorldK (fun v : {v : Itv // v ∈ L} => itvCells v.1) 3 w g 0 m dk os) K T 0 base kind x y.1.it z.1.it ax y.1.at_ z.1.at_ cx y.1.cap z.1.cap (u.cell hK (by show K < g ∨ g + 1 ≤ K; omega)) (u.cell hT (by show T < g ∨ g + 1 ≤ T; omega)) (hx.upd u (.inl hbg)) ((hok _ y.2).1.upd u (.inl hbg)) ((hok _ z.2).1.upd u (.inl hbg)) vx vy vz
      have e1 : (Value.agg (itvCells y.1).toArray) = .agg #[.int .i64 y.1.it.key, .slice y.1.at_ 4 y.1.cap, .int .i64 y.1.it.tags] := by
        have e4 : y.1.it.pos.length = 4 := by have := vecB_len vy; omega
        show Value.agg #[.int .i64 y.1.it.key, .slice y.1.at_ y.1.it.pos.length y.1.cap, .int .i64 y.1.it.tags] = _
        rw [e4]
      have e2 : (Value.agg (itvCells z.1).toArray) = .agg #[.int .i64 z.1.it.key, .slice z.1.at_ 4 z.1.cap, .int .i64 z.1.it.tags] := by
        have e4 : z.1.it.pos.length = 4 := by have := vecB_len vz; omega
        show Value.agg #[.int .i64 z.1.it.key, .slice z.1.at_ z.1.it.pos.length z.1.cap, .int .i64 z.1.it.tags] = _
        rw [e4]
      rw [e1, e2]
      exact h
    have hcon := AnyQ.slices_SortFunc_total Try.sortIts 3 Try.isAgg39 Try.sizeOf39 (fun v : {v : Itv // v ∈ L} => itvCells v.1) (fun _ => rfl) (fun v => itCells_one _ _ _) _ hswo 51 _ g 0 cap L.attach.toArray w eg hcmp hH hg (by omega) htot
    rw [hsz] at hcon
    refine Calls.mono (show Calls Try.prog 50 _ _ _ from hcon) ?_
    rintro e w' ⟨rfl, m, os, rfl⟩
    refine ⟨rfl, upd_sort _ _ _ _ _ _ _ _ hg, ?_⟩
    have hS : ((L.attach.mergeSort fun a b => !(ltOf fun a b : {v : Itv // v ∈ L} => cmpIt kind x.pos a.1.it b.1.it) b a).map fun a => a.1.it) = byD kind x.pos (L.map Itv.it) := by
      rw [← mergeI (by rw [List.pairwise_map]; exact hkeys), List.map_mergeSort (s := fun a b => !ltI kind x.pos b a) fun a _ b _ => by rw [hlt]]
      congr 1
      show L.attach.map (Itv.it ∘ Subtype.val) = _
      rw [← List.map_map, List.attach_map_subtype_val]
    rw [← hS]
    obtain ⟨c, hc⟩ := hitem
    refine itemsB_of_holdsK (fun a : {v : Itv // v ∈ L} => a.1) (holdsK_sortWorldK_c _ 3 w g 0 L.attach.toArray _ m os hH hg (by simp)) (block_sort _ _ _ _ _ _ _ _ hc) (by rw [List.length_mergeSort, List.length_attach]; omega) fun a _ => (hok _ a.2).upd (upd_sort _ _ _ _ _ _ _ _ hg) (.inl hbg)
end Go.Proofs.Ytlammenejgagdaa
