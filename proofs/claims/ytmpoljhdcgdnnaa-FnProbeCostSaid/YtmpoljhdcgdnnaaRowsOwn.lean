/-
  Slices of slices of ints whose rows the call itself has made, no two of them in one block.
-/
import Derived.Test.YtmpoljhdcgdnnaaMarkSS
import Derived.Test.YtmpoljhdcgdnnaaItemOwn
import Derived.Deep.AppendLies
namespace Go.Proofs.Ytmpoljhdcgdnnaa
open Go.RowKit
set_option linter.unusedVariables false

/-- a nil slice -/
def nilV : Value := .slice none 0 0
def addrV : Value → Option Addr
  | .slice a _ _ => a
  | _ => none
def capV : Value → Nat
  | .slice _ _ c => c
  | _ => 0
/-- the values vs are slices of the call's own that read as the lists ll; no two of them lie in one block -/
def RowsO (w : World) (lo hi : Nat) (vs : List Value) (ll : List (List Int)) : Prop :=
  vs.length = ll.length ∧
  (∀ j, j < ll.length → w.ownsRow lo 3 1 (vs.getD j nilV) (ll.getD j []).length ((ll.getD j []).map (Value.int .i64)) ∧ ∀ k, (vs.getD j nilV).ownBlock = some k → k < hi) ∧
  ∀ i j, i < ll.length → j < ll.length → i ≠ j → ∀ k, (vs.getD i nilV).ownBlock = some k → (vs.getD j nilV).ownBlock ≠ some k
theorem owns_dn {w : World} {lo lo' e size n : Nat} {v : Value} {xs : List Value} (h : w.ownsRow lo e size v n xs) (hl : lo' ≤ lo) : w.ownsRow lo' e size v n xs :=
  ⟨h.1, h.2.imp id fun ⟨g', c', cur, q1, q2, q3⟩ => ⟨g', c', cur, q1, Nat.le_trans hl q2, q3⟩⟩
theorem rowsO_nil (w : World) (lo hi : Nat) : RowsO w lo hi [] [] := ⟨rfl, fun j hj => absurd hj (Nat.not_lt_zero _), fun i j hj => absurd hj (Nat.not_lt_zero _)⟩
theorem RowsO.upd {w w' : World} {lo hi lo' hi' : Nat} {vs : List Value} {ll : List (List Int)} (h : RowsO w lo hi vs ll) (u : Upd lo' hi' w w') (hd : hi' ≤ lo ∨ hi' ≤ lo') : RowsO w' lo hi vs ll :=
  ⟨h.1, fun j hj => ⟨owns_upd (h.2.1 j hj).1 u hd, (h.2.1 j hj).2⟩, h.2.2⟩
theorem RowsO.below {w w' : World} {lo hi : Nat} {vs : List Value} {ll : List (List Int)} (h : RowsO w lo hi vs ll) (u : Below w.heap.size w w') : RowsO w' lo hi vs ll := h.upd (Upd.of_below (lo := 0) (hi := 0) u) (by omega)
theorem RowsO.wide {w : World} {lo hi lo' hi' : Nat} {vs : List Value} {ll : List (List Int)} (h : RowsO w lo hi vs ll) (h1 : lo' ≤ lo) (h2 : hi ≤ hi') : RowsO w lo' hi' vs ll :=
  ⟨h.1, fun j hj => ⟨owns_dn (h.2.1 j hj).1 h1, fun k hk => by have := (h.2.1 j hj).2 k hk; omega⟩, h.2.2⟩
/-- rows of two types lie in two blocks -/
theorem owns_ne {w : World} {b1 b2 t1 t2 s1 s2 n1 n2 : Nat} {v1 v2 : Value} {xs1 xs2 : List Value} (h1 : w.ownsRow b1 t1 s1 v1 n1 xs1) (h2 : w.ownsRow b2 t2 s2 v2 n2 xs2) (ht : t1 ≠ t2) : v1.ownBlock = none ∨ v1.ownBlock ≠ v2.ownBlock := by
  rcases h1.2 with ⟨rfl, _⟩ | ⟨g, c, cur, rfl, _, hg, _⟩
  · exact .inl rfl
  · refine .inr fun e => ?_
    rcases h2.2 with ⟨rfl, _⟩ | ⟨g', c', cur', rfl, _, hg', _⟩
    · simp [Value.ownBlock] at e
    · simp only [Value.ownBlock, Option.some.injEq] at e
      subst e
      rw [hg] at hg'
      simp only [Option.some.injEq, Obj.cells.injEq] at hg'
      exact ht hg'.2.1
theorem RowsO.grown {w w' : World} {lo hi base size n : Nat} {vs xs : List Value} {v : Value} {ll : List (List Int)} {t : TypeId} (h : RowsO w lo hi vs ll) (hown : w.ownsRow base t size v n xs) (ht : 3 ≠ t) (hg : w.grownBy w' v.ownBlock) : RowsO w' lo hi vs ll :=
  ⟨h.1, fun j hj => ⟨(h.2.1 j hj).1.kept hg (owns_ne (h.2.1 j hj).1 hown ht), (h.2.1 j hj).2⟩, h.2.2⟩
theorem getD_app_mid {α : Type} {l : List α} {x d : α} {k : Nat} (hk : k = l.length) : (l ++ [x]).getD k d = x := by subst hk; exact getD_last _ _ _
theorem RowsO.snoc {w : World} {lo hi hi' : Nat} {vs : List Value} {ll : List (List Int)} (h : RowsO w lo hi vs ll) {v : Value} {l : List Int} (ho : w.ownsRow hi 3 1 v l.length (l.map (Value.int .i64))) (hl : lo ≤ hi) (hh : ∀ k, v.ownBlock = some k → k < hi') (hhi : hi ≤ hi') : RowsO w lo hi' (vs ++ [v]) (ll ++ [l]) := by
  have hvl := h.1
  have hlen : (ll ++ [l]).length = ll.length + 1 := by simp
  refine ⟨by simp [h.1], fun j hj => ?_, fun i j hi' hj hij k hk => ?_⟩
  · by_cases hlt : j < ll.length
    · rw [getD_app_left _ (by omega), getD_app_left _ hlt]
      exact ⟨(h.2.1 j hlt).1, fun k hk => by have := (h.2.1 j hlt).2 k hk; omega⟩
    · rw [getD_app_mid (by omega), getD_app_mid (by omega)]
      exact ⟨owns_dn ho hl, hh⟩
  · by_cases hi2 : i < ll.length
    · rw [getD_app_left _ (by omega)] at hk
      by_cases hj2 : j < ll.length
      · rw [getD_app_left _ (by omega)]
        exact h.2.2 i j hi2 hj2 hij k hk
      · rw [getD_app_mid (by omega)]
        intro e
        have h1 := (ho.lt k e).1
        have h2 := (h.2.1 i hi2).2 k hk
        omega
    · rw [getD_app_mid (by omega)] at hk
      rw [getD_app_left _ (by omega)]
      intro e
      have h1 := (ho.lt k hk).1
      have h2 := (h.2.1 j (by omega)).2 k e
      omega
theorem getD_set_self {α : Type} {l : List α} {k : Nat} {x d : α} (hk : k < l.length) : (l.set k x).getD k d = x := by
  rw [List.getD_eq_getElem?_getD, List.getElem?_set_self hk]; rfl
theorem getD_set_ne {α : Type} {l : List α} {k j : Nat} {x d : α} (hk : k ≠ j) : (l.set k x).getD j d = l.getD j d := by
  rw [List.getD_eq_getElem?_getD, List.getElem?_set_ne hk, List.getD_eq_getElem?_getD]
/-- one row is appended to -/
theorem RowsO.setRow {w w' : World} {lo hi hi' c g : Nat} {vs : List Value} {ll : List (List Int)} (h : RowsO w lo hi vs ll) (hc : c < ll.length) (hg : w.grownBy w' (vs.getD c nilV).ownBlock) {v' : Value} {l' : List Int}
    (ho : w'.ownsRow lo 3 1 v' l'.length (l'.map (Value.int .i64))) (hb : v'.ownBlock = some g) (hat : (vs.getD c nilV).ownBlock = some g ∨ hi ≤ g) (hlt : g < hi') (hhi : hi ≤ hi') : RowsO w' lo hi' (vs.set c v') (ll.set c l') := by
  have hvl := h.1
  refine ⟨by simp [h.1], fun j hj => ?_, fun i j hi2 hj hij k hk => ?_⟩
  · have hj' : j < ll.length := by simpa using hj
    by_cases hjc : c = j
    · subst hjc
      rw [getD_set_self (by omega), getD_set_self hj']
      exact ⟨ho, fun k hk => by rw [hb] at hk; cases hk; exact hlt⟩
    · rw [getD_set_ne hjc, getD_set_ne hjc]
      refine ⟨(h.2.1 j hj').1.kept hg ?_, fun k hk => by have := (h.2.1 j hj').2 k hk; omega⟩
      cases hv : (vs.getD j nilV).ownBlock with
      | none => exact .inl rfl
      | some q => exact .inr fun e => h.2.2 j c hj' hc (Ne.symm hjc) q hv e.symm
  · have hi' : i < ll.length := by simpa using hi2
    have hj' : j < ll.length := by simpa using hj
    by_cases hic : c = i
    · subst hic
      rw [getD_set_self (by omega), hb] at hk
      cases hk
      rw [getD_set_ne hij]
      intro e
      rcases hat with h1 | h1
      · exact h.2.2 j c hj' hc (Ne.symm hij) _ e h1
      · have := (h.2.1 j hj').2 _ e; omega
    · rw [getD_set_ne hic] at hk
      by_cases hjc : c = j
      · subst hjc
        rw [getD_set_self (by omega), hb]
        intro e
        cases e
        rcases hat with h1 | h1
        · exact h.2.2 i c hi' hc hij _ hk h1
        · have := (h.2.1 i hi').2 _ hk; omega
      · rw [getD_set_ne hjc]
        exact h.2.2 i j hi' hj' hij k hk
theorem getD_replicate {α : Type} (n j : Nat) (x : α) : (List.replicate n x).getD j x = x := by
  rw [List.getD_eq_getElem?_getD, List.getElem?_replicate]
  by_cases h : j < n
  · rw [if_pos h]; rfl
  · rw [if_neg h]; rfl
theorem rowsO_nils (w : World) (lo hi n : Nat) : RowsO w lo hi (List.replicate n nilV) (List.replicate n []) := by
  refine ⟨by simp, fun j hj => ?_, fun i j _ _ _ k hk => ?_⟩
  · rw [getD_replicate, getD_replicate]
    exact ⟨⟨rfl, .inl ⟨rfl, rfl⟩⟩, fun k hk => by simp [nilV, Value.ownBlock] at hk⟩
  · rw [getD_replicate] at hk
    simp [nilV, Value.ownBlock] at hk
/-- a slice of slices that the call itself has made, rows and all -/
def NewLists (w : World) (ll : List (List Int)) (e : Ending) (w' : World) : Prop :=
  ∃ a cap vs, e = .returned (.slice a ll.length cap) ∧ w'.ownsRow w.heap.size 25 1 (.slice a ll.length cap) ll.length vs ∧ RowsO w' w.heap.size w'.heap.size vs ll ∧ Below w.heap.size w w'
theorem NewLists.nil {w w' : World} (h : Below w.heap.size w w') : NewLists w [] (.returned (.slice none 0 0)) w' := ⟨none, 0, [], rfl, ⟨rfl, .inl ⟨rfl, rfl⟩⟩, rowsO_nil _ _ _, h⟩
theorem NewLists.mk {w w' : World} {v : Value} {n : Nat} {ll : List (List Int)} {vs : List Value} (hl : ll.length = n) (ho : w'.ownsRow w.heap.size 25 1 v n vs) (hr : RowsO w' w.heap.size w'.heap.size vs ll) (hb : Below w.heap.size w w') : NewLists w ll (.returned v) w' := by
  subst hl
  obtain ⟨a, cap, rfl, _⟩ := owns_form ho
  exact ⟨a, cap, vs, rfl, ho, hr, hb⟩
theorem NewLists.later {w w2 w' : World} {ll : List (List Int)} {e : Ending} (h : NewLists w2 ll e w') (hb : Below w.heap.size w w2) : NewLists w ll e w' := by
  obtain ⟨a, cap, vs, he, ho, hr, hb2⟩ := h
  have hs := hb.size
  exact ⟨a, cap, vs, he, owns_dn ho hs, hr.wide hs (Nat.le_refl _), hb.trans (hb2.mono hs)⟩
/-- all numbers are of the machine's size, all lists short -/
def LOk (ll : List (List Int)) : Prop := ll.length ≤ 1048576 ∧ ∀ j, j < ll.length → (ll.getD j []).length ≤ 1048576 ∧ ∀ x ∈ ll.getD j [], -9223372036854775808 ≤ x ∧ x ≤ 9223372036854775807
theorem lOk_nil : LOk [] := ⟨by simp, fun j hj => absurd hj (Nat.not_lt_zero _)⟩
theorem ints_tight {w : World} {base g n : Nat} {cap : Nat} {l : List Int} (h : w.ownsRow base 3 1 (.slice (some ⟨g, 0, none⟩) n cap) n (l.map (Value.int .i64))) (hok : ∀ x ∈ l, -9223372036854775808 ≤ x ∧ x ≤ 9223372036854775807) (hl : l.length ≤ 9223372036854775807) : Ints w g (g + 1) (some ⟨g, 0, none⟩) l := by
  have hn : l.length = n := by have := h.1; simpa using this
  refine ⟨fun _ => ⟨g, 0, rfl, Nat.le_refl _, Nat.lt_succ_self _, fun j hj => ?_⟩, hl, hok⟩
  have h5 := h.cellAt j (by omega)
  rw [Nat.zero_add, h5, List.getElem?_map, List.getElem?_eq_getElem hj, List.getD_eq_getElem?_getD, List.getElem?_eq_getElem hj]
  rfl
theorem intsO_nil (w : World) (lo hi : Nat) (a : Option Addr) : IntsO w lo hi a [] := ⟨Ints.nil _ _ _ _, fun h => absurd rfl h⟩
/-- .. as its caller marks it: the slices' block, the rows' blocks, addresses and capacities -/
def SSOf (B : Nat) (bs : Nat → Nat) (A : Nat → Option Addr) (C : Nat → Nat) (w : World) (lo hi : Nat) (ll : List (List Int)) : Prop :=
  (∀ j, j < ll.length → w.cell? ⟨B, j, none⟩ = some (.slice (A j) (ll.getD j []).length (C j)) ∧ IntsO w (bs j) (bs j + 1) (A j) (ll.getD j []) ∧ (ll.getD j [] ≠ [] → lo ≤ bs j ∧ bs j < hi ∧ bs j ≠ B)) ∧
  (∀ i j, i < ll.length → j < ll.length → i ≠ j → ll.getD i [] ≠ [] → ll.getD j [] ≠ [] → bs i ≠ bs j) ∧ (ll ≠ [] → lo ≤ B ∧ B < hi)
def SSO (w : World) (lo hi : Nat) (a : Option Addr) (ll : List (List Int)) : Prop := ∃ B bs A C, (ll ≠ [] → a = some ⟨B, 0, none⟩) ∧ SSOf B bs A C w lo hi ll
theorem IntsO.any {w w' : World} {lo hi lo' hi' : Nat} {a : Option Addr} {l : List Int} (h : IntsO w lo hi a l) (u : Upd lo' hi' w w') (hd : l ≠ [] → hi ≤ lo' ∨ hi' ≤ lo) : IntsO w' lo hi a l := by
  by_cases hl : l = []
  · subst hl; exact intsO_nil _ _ _ _
  · exact h.upd u (hd hl)
theorem SSOf.upd {B : Nat} {bs : Nat → Nat} {A : Nat → Option Addr} {C : Nat → Nat} {w w' : World} {lo hi lo' hi' : Nat} {ll : List (List Int)} (h : SSOf B bs A C w lo hi ll) (u : Upd lo' hi' w w') (hd : hi ≤ lo' ∨ hi' ≤ lo) : SSOf B bs A C w' lo hi ll := by
  refine ⟨fun j hj => ?_, h.2⟩
  obtain ⟨h1, h2, h3⟩ := h.1 j hj
  have hB := h.2.2 (by rintro rfl; simp at hj)
  exact ⟨u.cell h1 (by show B < lo' ∨ hi' ≤ B; omega), h2.any u fun hne => by have := h3 hne; omega, h3⟩
theorem SSO.upd {w w' : World} {lo hi lo' hi' : Nat} {a : Option Addr} {ll : List (List Int)} (h : SSO w lo hi a ll) (u : Upd lo' hi' w w') (hd : hi ≤ lo' ∨ hi' ≤ lo) : SSO w' lo hi a ll := by
  obtain ⟨B, bs, A, C, h1, h2⟩ := h
  exact ⟨B, bs, A, C, h1, h2.upd u hd⟩
theorem SSO.below {w w' : World} {lo hi : Nat} {a : Option Addr} {ll : List (List Int)} (h : SSO w lo hi a ll) (u : Below w.heap.size w w') : SSO w' lo hi a ll := by
  obtain ⟨B, bs, A, C, h1, h2⟩ := h
  refine ⟨B, bs, A, C, h1, fun j hj => ?_, h2.2⟩
  obtain ⟨k1, k2, k3⟩ := h2.1 j hj
  exact ⟨cell_later u k1, k2.below u, k3⟩
theorem SSO.drawn {w w' : World} {lo hi : Nat} {a : Option Addr} {ll : List (List Int)} (h : SSO w lo hi a ll) (u : Drawn w w') : SSO w' lo hi a ll := h.below u.below
theorem SSO.lists {w : World} {lo hi : Nat} {a : Option Addr} {ll : List (List Int)} (h : SSO w lo hi a ll) (hl : ll.length ≤ 9223372036854775807) : Lists w lo hi a ll := by
  obtain ⟨B, bs, A, C, h1, h2⟩ := h
  refine ⟨fun hne => ⟨B, 0, h1 hne, (h2.2.2 hne).1, (h2.2.2 hne).2, fun j hj => ?_⟩, hl⟩
  obtain ⟨k1, k2, k3⟩ := h2.1 j hj
  refine ⟨A j, C j, by rw [Nat.zero_add]; exact k1, ?_⟩
  by_cases hr : ll.getD j [] = []
  · rw [hr]; exact Ints.nil _ _ _ _
  · have := k3 hr
    exact k2.1.wide (by omega) (by omega)
theorem sso_of_new {w : World} {lo : Nat} {a : Option Addr} {cap n : Nat} {vs : List Value} {ll : List (List Int)} (ho : w.ownsRow lo 25 1 (.slice a n cap) ll.length vs) (hr : RowsO w lo w.heap.size vs ll) (hk : LOk ll) : n = ll.length ∧ SSO w lo w.heap.size a ll := by
  rcases ho.2 with ⟨hv, h0⟩ | ⟨g, cap', cur, hv, hb, hg, h1, h2, h3, h4⟩
  · simp only [Value.slice.injEq] at hv
    obtain ⟨rfl, rfl, rfl⟩ := hv
    have : ll = [] := List.eq_nil_of_length_eq_zero h0
    subst this
    exact ⟨rfl, 0, fun _ => 0, fun _ => none, fun _ => 0, fun h => absurd rfl h, fun j hj => absurd hj (Nat.not_lt_zero _), fun i j hj => absurd hj (Nat.not_lt_zero _), fun h => absurd rfl h⟩
  · simp only [Value.slice.injEq] at hv
    obtain ⟨rfl, rfl, rfl⟩ := hv
    refine ⟨rfl, g, fun j => ((vs.getD j nilV).ownBlock).getD 0, fun j => addrV (vs.getD j nilV), fun j => capV (vs.getD j nilV), fun _ => rfl, fun j hj => ?_, fun i j hi hj hij hi2 hj2 => ?_, fun _ => ⟨hb, (Array.getElem?_eq_some_iff.1 hg).1⟩⟩
    · obtain ⟨q1, q2⟩ := hr.2.1 j hj
      obtain ⟨k1, k2⟩ := hk.2 j hj
      have hvj : vs[j]? = some (vs.getD j nilV) := by
        have := hr.1
        rw [List.getD_eq_getElem?_getD, List.getElem?_eq_getElem (by omega)]; rfl
      have hcell : w.cell? ⟨g, j, none⟩ = some (vs.getD j nilV) := by
        rw [ho.cellAt j (by omega)]; exact hvj
      rcases q1.2 with ⟨e, h0'⟩ | ⟨g', c', cur', e, hb', hg', _⟩
      · have hnil : ll.getD j [] = [] := List.eq_nil_of_length_eq_zero h0'
        dsimp only
        rw [hcell, e, hnil]
        exact ⟨rfl, intsO_nil _ _ _ _, fun h => absurd rfl h⟩
      · dsimp only
        rw [e] at q1 hcell ⊢
        rw [hcell]
        refine ⟨rfl, ⟨ints_tight q1 k2 (by omega), intBlk_of_owns q1⟩, fun _ => ⟨hb', (Array.getElem?_eq_some_iff.1 hg').1, fun hgg => ?_⟩⟩
        have hgg' : g' = g := hgg
        subst hgg'
        rw [hg] at hg'
        simp only [Option.some.injEq, Obj.cells.injEq] at hg'
        exact absurd hg'.2.1 (by decide)
    · obtain ⟨q1, q2⟩ := hr.2.1 i hi
      obtain ⟨p1, p2⟩ := hr.2.1 j hj
      have hne := hr.2.2 i j hi hj hij
      rcases q1.2 with ⟨e, h0'⟩ | ⟨g', c', cur', e, hb', hg', _⟩
      · exact absurd (List.eq_nil_of_length_eq_zero h0') hi2
      · rcases p1.2 with ⟨e2, h0'⟩ | ⟨g2, c2, cur2, e2, hb2, hg2, _⟩
        · exact absurd (List.eq_nil_of_length_eq_zero h0') hj2
        · dsimp only
          rw [e, e2] at hne
          rw [e, e2]
          intro hx
          have hx' : g' = g2 := hx
          subst hx'
          exact hne g' rfl rfl
/-- .. as its caller reads it -/
def GetLists (w : World) (ll : List (List Int)) (e : Ending) (w' : World) : Prop :=
  ∃ a cap, e = .returned (.slice a ll.length cap) ∧ Lists w' 0 w'.heap.size a ll ∧ Cap ll.length cap ∧ Below w.heap.size w w'
theorem NewLists.read {w w' : World} {ll : List (List Int)} {e : Ending} (hk : LOk ll) (h : NewLists w ll e w') : GetLists w ll e w' := by
  obtain ⟨a, cap, vs, he, ho, hr, hb⟩ := h
  have hs := (sso_of_new ho hr hk).2
  have hl : ll.length ≤ 9223372036854775807 := by have := hk.1; omega
  exact ⟨a, cap, he, (hs.lists hl).wide (Nat.zero_le _) (Nat.le_refl _), owns_cap ho, hb⟩
end Go.Proofs.Ytmpoljhdcgdnnaa
