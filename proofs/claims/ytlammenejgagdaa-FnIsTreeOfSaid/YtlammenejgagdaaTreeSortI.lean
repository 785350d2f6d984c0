/-
  What the program's sort of items does to a row of the call's own.
-/
import Derived.Test.YtlammenejgagdaaTreeItems
namespace Go.Proofs.Ytlammenejgagdaa
open Go.RowKit Go.Sort Go.Shelf Go.Lib
set_option linter.unusedVariables false

shelf_lay_g SlLaysF0.n6 Slsf 6 at Try 50 as Try.sortIts
theorem ltOf_cmpIt (kind : Int) (m : List Int) (y z : It) : decide (cmpIt kind m y z < 0) = ltI kind m y z := by
  cases h : ltI kind m y z
  · exact decide_eq_false fun e => by rw [cmpIt_lt, h] at e; cases e
  · exact decide_eq_true ((cmpIt_lt kind m y z).2 h)
/-- the block of a sorted row -/
theorem block_sort {α : Type} [Inhabited α] (enc : α → List Value) (k : Nat) (w : World) (blk off m : Nat) (d : Array α) (os : Array Obj) {c : Array Value} {t : TypeId} (h : w.heap[blk]? = some (.cells c t (0, 0))) : ∃ c', (sortWorldK enc k w blk off m d os).heap[blk]? = some (.cells c' t (0, 0)) := by
  have hb : blk < w.heap.size := (Array.getElem?_eq_some_iff.1 h).1
  have e : w.heap[blk] = .cells c t (0, 0) := (Array.getElem?_eq_some_iff.1 h).2
  refine ⟨putCells id off (flatK enc k d) c, ?_⟩
  simp [sortWorldK, Go.Sort.grow, putRowK, putRow, mapBlock, Array.getElem?_append, hb]
  rw [Array.getElem_modify, if_pos rfl]
  show onCells _ w.heap[blk] = _
  rw [e]
  rfl
/-- a row that holds items reads as them -/
theorem itemsB_of_holdsK {α : Type} [Inhabited α] (val : α → Itv) {w : World} {g base : Nat} {l : List α} (h : HoldsK (fun a => itvCells (val a)) 3 w g 0 l.toArray) (hb : ∃ c, w.heap[g]? = some (.cells c 39 (0, 0))) (hlen : l.length ≤ 9223372036854775807)
    (hok : ∀ a ∈ l, ItV w 0 base (val a).it (val a).at_ (val a).cap) : ItemsB w base (some ⟨g, 0, none⟩) (l.map fun a => (val a).it) := by
  obtain ⟨c, hc⟩ := hb
  refine ⟨fun _ => ⟨g, 0, rfl, (Array.getElem?_eq_some_iff.1 hc).1, .inr ⟨c, hc⟩, fun j hj => ?_⟩, by rw [List.length_map]; exact hlen⟩
  rw [List.length_map] at hj
  have hj' : j < l.toArray.size := by simpa using hj
  have h0 := (h.cell hj' (show 0 < 3 by omega)).1
  have h1 := (h.cell hj' (show 1 < 3 by omega)).1
  have h2 := (h.cell hj' (show 2 < 3 by omega)).1
  have e : l.toArray[j]! = l[j] := by
    rw [getElem!_pos l.toArray j hj']
    rfl
  rw [e] at h0 h1 h2
  have e2 : (l.map fun a => (val a).it).getD j It.no = (val l[j]).it := by
    rw [List.getD_eq_getElem?_getD, List.getElem?_map, List.getElem?_eq_getElem hj]; rfl
  rw [e2]
  exact ⟨_, _, h0, h1, h2, hok _ (List.getElem_mem _)⟩
def SortedI (w : World) (base g : Nat) (R : List It) (e : Ending) (w' : World) : Prop :=
  e = .returned (.tuple #[]) ∧ Upd g (g + 1) w w' ∧ ItemsB w' base (some ⟨g, 0, none⟩) R
theorem sortItems (w : World) (lo base g n cap K T : Nat) (kind : Int) (x : It) (ax : Option Addr) (cx : Nat) (L : List Itv) (ho : w.ownsRow lo 39 3 (.slice (some ⟨g, 0, none⟩) n cap) n (flatI L)) (hn : n ≤ 1000000) (hok : ItvOk w 0 base L) (hv : ∀ v ∈ L, vecB v.it.pos 4 = true)
    (hx : Ints w 0 base ax x.pos) (vx : vecB x.pos 4 = true) (hK : w.cell? ⟨K, 0, none⟩ = some (.int .i64 kind)) (hT : w.cell? ⟨T, 1, none⟩ = some (.slice ax 4 cx)) (hKg : K ≠ g) (hTg : T ≠ g) (hbg : base ≤ g) (hkeys : L.Pairwise fun a b => a.it.key ≠ b.it.key) :
    Calls Try.prog 50 #[.slice (some ⟨g, 0, none⟩) n cap, .func (.func 51) #[] #[.pointer (some ⟨K, 0, none⟩), .pointer (some ⟨T, 0, none⟩)]] w (SortedI w base g (byD kind x.pos (L.map Itv.it))) := by
  have hl : L.length = n := by have := ho.1; rw [flatI_length] at this; omega
  have hg := (ho.lt g rfl).2
  have hitem : ∃ c, w.heap[g]? = some (.cells c 39 (0, 0)) := by
    rcases ho.2 with ⟨h1, _⟩ | ⟨g', cap', cur, h1, hb, hg, _⟩
    · cases h1
    · simp only [Value.slice.injEq, Option.some.injEq, Addr.mk.injEq] at h1
      obtain ⟨⟨rfl, _⟩, _⟩ := h1
      exact ⟨cur, hg⟩
  by_cases h0 : n = 0
  · subst h0
    have hL : L = [] := List.eq_nil_of_length_eq_zero hl
    subst hL
    refine Calls.mono (show Calls Try.prog 50 _ _ _ from AnyF.slices_SortFunc_none Try.sortIts (some ⟨g, 0, none⟩) cap _ w) ?_
    rintro e w' ⟨rfl, rfl⟩
    exact ⟨rfl, Upd.refl _ _ _, ItemsB.nil _ _ _⟩
  · have hmem : L.getD 0 Itv.no ∈ L := itv_mem (by omega)
    letI : Inhabited {v : Itv // v ∈ L} := ⟨⟨L.getD 0 Itv.no, hmem⟩⟩
    have hsz : L.attach.toArray.size = n := by simpa using hl
    have eg : ∀ args w, (callFunc 51 args).run Try.prog w = .ok (.enter 51 args) w := enters_of Try.func51 (by kernel_rfl) rfl
    have hcells : flatI L = L.attach.toArray.toList.flatMap fun v : {v : Itv // v ∈ L} => itvCells v.1 := by
      show _ = L.attach.flatMap _
      rw [show flatI L = (L.attach.map Subtype.val).flatMap itvCells by rw [List.attach_map_subtype_val]; rfl, List.flatMap_map]
    have hH : HoldsK (fun v : {v : Itv // v ∈ L} => itvCells v.1) 3 w g 0 L.attach.toArray := holdsK_of_owns (fun v : {v : Itv // v ∈ L} => itvCells v.1) (fun _ => rfl) L.attach.toArray hsz (by rw [← hcells]; exact ho)
    have hlt : ∀ a b : {v : Itv // v ∈ L}, ltOf (fun a b : {v : Itv // v ∈ L} => cmpIt kind x.pos a.1.it b.1.it) a b = ltI kind x.pos a.1.it b.1.it := fun a b => ltOf_cmpIt kind x.pos a.1.it b.1.it
    have hswo : SWO (ltOf fun a b : {v : Itv // v ∈ L} => cmpIt kind x.pos a.1.it b.1.it) :=
      ⟨fun a => by rw [hlt]; exact ltH_irr _, fun a b c h1 h2 => by rw [hlt] at *; exact ltH_trans h1 h2, fun a b c h1 h2 => by rw [hlt] at *; exact ltH_weak h2 h1⟩
    have htot : ∀ a b : {v : Itv // v ∈ L}, ltOf (fun a b : {v : Itv // v ∈ L} => cmpIt kind x.pos a.1.it b.1.it) a b = false → ltOf (fun a b : {v : Itv // v ∈ L} => cmpIt kind x.pos a.1.it b.1.it) b a = false → a = b := fun a b h1 h2 => by
      rw [hlt] at h1 h2
      have hk : a.1.it.key = b.1.it.key := Decidable.byContradiction fun hne => by rw [ltI_total h2 hne] at h1; cases h1
      obtain ⟨i, hi, e1⟩ := List.getElem_of_mem a.2
      obtain ⟨j, hj, e2⟩ := List.getElem_of_mem b.2
      have hp := List.pairwise_iff_getElem.1 hkeys
      rcases Nat.lt_trichotomy i j with h | h | h
      · exact absurd (by rw [e1, e2]; exact hk) (hp i j hi hj h)
      · subst h; exact Subtype.ext (e1.symm.trans e2)
      · exact absurd (by rw [e1, e2]; exact hk.symm) (hp j i hj hi h)
    have hcmp : CmpLays Try.prog 51 #[.pointer (some ⟨K, 0, none⟩), .pointer (some ⟨T, 0, none⟩)] (fun v : {v : Itv // v ∈ L} => itvCells v.1) 3 (fun a b : {v : Itv // v ∈ L} => cmpIt kind x.pos a.1.it b.1.it) g 0 L.attach.toArray.size w := fun m os dk _ y z => by
      have u := upd_sort (fun v : {v : Itv // v ∈ L} => itvCells v.1) 3 w g 0 m dk os hg
      have vy := hv _ y.2
      have vz := hv _ z.2
      have h := itemCmp (sortWorldK (fun v : {v : Itv // v ∈ L} => itvCells v.1) 3 w g 0 m dk os) K T 0 base kind x y.1.it z.1.it ax y.1.at_ z.1.at_ cx y.1.cap z.1.cap (u.cell hK (by show K < g ∨ g + 1 ≤ K; omega)) (u.cell hT (by show T < g ∨ g + 1 ≤ T; omega)) (hx.upd u (.inl hbg)) ((hok _ y.2).1.upd u (.inl hbg)) ((hok _ z.2).1.upd u (.inl hbg)) vx vy vz
      have e1 : (Value.agg (itvCells y.1).toArray) = .agg #[.int .i64 y.1.it.key, .slice y.1.at_ 4 y.1.cap, .int .i64 y.1.it.tags] := by
        have e4 : y.1.it.pos.length = 4 := by have := vecB_len vy; omega
        show Value.agg #[.int .i64 y.1.it.key, .slice y.1.at_ y.1.it.pos.length y.1.cap, .int .i64 y.1.it.tags] = _
        rw [e4]
      have e2 : (Value.agg (itvCells z.1).toArray) = .agg #[.int .i64 z.1.it.key, .slice z.1.at_ 4 z.1.cap, .int .i64 z.1.it.tags] := by
        have e4 : z.1.it.pos.length = 4 := by have := vecB_len vz; omega
        show Value.agg #[.int .i64 z.1.it.key, .slice z.1.at_ z.1.it.pos.length z.1.cap, .int .i64 z.1.it.tags] = _
        rw [e4]
      rw [e1, e2]
      exact h
    have hcon := AnyQ.slices_SortFunc_total Try.sortIts 3 Try.isAgg39 Try.sizeOf39 (fun v : {v : Itv // v ∈ L} => itvCells v.1) (fun _ => rfl) (fun v => itCells_one _ _ _) _ hswo 51 _ g 0 cap L.attach.toArray w eg hcmp hH hg (by omega) htot
    rw [hsz] at hcon
    refine Calls.mono (show Calls Try.prog 50 _ _ _ from hcon) ?_
    rintro e w' ⟨rfl, m, os, rfl⟩
    refine ⟨rfl, upd_sort _ _ _ _ _ _ _ _ hg, ?_⟩
    have hS : ((L.attach.mergeSort fun a b => !(ltOf fun a b : {v : Itv // v ∈ L} => cmpIt kind x.pos a.1.it b.1.it) b a).map fun a => a.1.it) = byD kind x.pos (L.map Itv.it) := by
      rw [← mergeI (by rw [List.pairwise_map]; exact hkeys), List.map_mergeSort (s := fun a b => !ltI kind x.pos b a) fun a _ b _ => by rw [hlt]]
      congr 1
      show L.attach.map (Itv.it ∘ Subtype.val) = _
      rw [← List.map_map, List.attach_map_subtype_val]
    rw [← hS]
    obtain ⟨c, hc⟩ := hitem
    refine itemsB_of_holdsK (fun a : {v : Itv // v ∈ L} => a.1) (holdsK_sortWorldK_c _ 3 w g 0 L.attach.toArray _ m os hH hg (by simp)) (block_sort _ _ _ _ _ _ _ _ hc) (by rw [List.length_mergeSort, List.length_attach]; omega) fun a _ => (hok _ a.2).upd (upd_sort _ _ _ _ _ _ _ _ hg) (.inl hbg)
end Go.Proofs.Ytlammenejgagdaa
