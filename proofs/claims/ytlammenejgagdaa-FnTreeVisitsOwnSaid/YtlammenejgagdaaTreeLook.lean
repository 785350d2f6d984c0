/-
  The walks of the closures of the program's TreeVisits: its reach and its look, node by node.
-/
import Derived.Test.YtlammenejgagdaaTreeTop
import Derived.Test.YtlammenejgagdaaTreeSeek
namespace Go.Proofs.Ytlammenejgagdaa
open Go.RowKit
set_option linter.unusedVariables false

theorem mergeH_ins {h : List Ht} (hw : WH h) (x : Ht) : ((h ++ [x]).mergeSort fun a b => !ltH b a) = insH x h := by
  refine List.Perm.eq_of_pairwise (le := fun a b => ltH b a = false) (fun a b _ _ h1 h2 => ?_) ?_ (wh_ins hw) ?_
  · rw [ltH_no] at h1 h2
    obtain ⟨ak, ad⟩ := a
    obtain ⟨bk, bd⟩ := b
    dsimp only at h1 h2
    have e1 : ak = bk := by omega
    have e2 : ad = bd := by omega
    rw [e1, e2]
  · have h1 := List.pairwise_mergeSort (le := fun a b => !ltH b a) (fun a b c hab hbc => by
      simp only [Bool.not_eq_true'] at *
      exact ltH_weak hab hbc) (fun a b => by
      cases h : ltH b a
      · rfl
      · rw [show ltH a b = false from ltH_asym h]; rfl) (h ++ [x])
    exact List.Pairwise.imp (fun {a b} h => by simpa using h) h1
  · exact (List.mergeSort_perm _ _).trans ((List.perm_append_comm (l₁ := h) (l₂ := [x])).trans (insH_perm x h).symm)
theorem owns_low {w : World} {base base' e size : Nat} {v : Value} {n : Nat} {xs : List Value} (h : w.ownsRow base e size v n xs) (hb : base' ≤ base) : w.ownsRow base' e size v n xs :=
  ⟨h.1, h.2.imp id fun ⟨g', c', cur, q1, q2, q3⟩ => ⟨g', c', cur, q1, Nat.le_trans hb q2, q3⟩⟩
theorem Keep.upd2 {base : Nat} {t : TypeId} {X : Nat → Prop} {w w' : World} (h : Keep base t X w w') (hX : ∀ k, X k → base ≤ k) (hb : base ≤ w.heap.size) : Upd base w.heap.size w w' :=
  ⟨h.os, h.tape, h.output, h.size, fun k hk hd => by
    rcases hd with hd | hd
    · exact (h.below hX hb).block k hd
    · omega⟩
/-- .. as a row of the call's own -/
def FirstOwn (w : World) (g : Nat) (R : List Ht) (e : Ending) (w' : World) : Prop :=
  ∃ g' cap, e = .returned (.slice (some ⟨g', 0, none⟩) R.length cap) ∧ w'.ownsRow w.heap.size 52 2 (.slice (some ⟨g', 0, none⟩) R.length cap) R.length (flatH R) ∧ Upd g (g + 1) w w'
set_option maxHeartbeats 1000000 in
theorem firstHits_own (w : World) (base g n cap k : Nat) (L : List Ht) (ho : w.ownsRow base 52 2 (.slice (some ⟨g, 0, none⟩) n cap) n (flatH L)) (hn : n ≤ 1000000) (hk : k ≤ 1000000) :
    Calls Try.prog 44 #[.slice (some ⟨g, 0, none⟩) n cap, .int .i64 (k : Int)] w (FirstOwn w g ((L.mergeSort fun x y => !ltH y x).take k)) := by
  have hl : L.length = n := by have := ho.1; rw [flatH_length] at this; omega
  have hc := owns_cap ho
  have hgl := (ho.lt g rfl).2
  have hc1 := hc.1
  have hc2 := hc.2
  have SO := Lib.hid (sortHits w base g n cap L ho hn)
  have HL : Hid ((L.mergeSort fun x y => !ltH y x).length = n) := Lib.hid (by rw [List.length_mergeSort, hl])
  obtain ⟨S, eS⟩ : ∃ S, (L.mergeSort fun x y => !ltH y x) = S := ⟨_, rfl⟩
  unfold SortedH at SO
  rw [eS] at SO HL ⊢
  clear eS hl hc ho
  by_cases hkn : k ≤ n
  · have hmin : min (k : Int) (n : Int) = (k : Int) := by omega
    have HT : Hid ((S.take k).length = k) := Lib.hid (by rw [List.length_take, HL.out]; omega)
    go_enter Try.func44, Try.ntmps44
    go_wp2_with fail
    refine SO.out.mono ?_
    rintro e w2 ⟨rfl, hu, hh⟩
    have HU := Lib.hid hu
    have hs2 := hu.size
    have HO := Lib.hid (owns_empty w2 w.heap.size 52 2 hs2)
    have HN := Lib.hid ((hh.below (below_alloc w2 (.cells #[] 52))).take k).vals
    have hsa : w.heap.size ≤ (w2.alloc (.cells #[] 52)).heap.size := by simp; omega
    clear hu hh
    go_wp2_with (at_builtin; refine appendS rfl _ _ 34 rfl w.heap.size 52 Try.underlying34 infoHit rfl (by omega) (by omega) w2.heap.size 0 0 [] rfl HO.out ⟨g, 0, none⟩ k cap (flatH (S.take k)) rfl (by rw [flatH_length, HT.out]) HN.out (flatH_cells _) (by omega) hsa ?_; intro g6 c6 w6 hown6 hc6 hg6; have HO6 := Lib.hid hown6; have HG6 := Lib.hid hg6; clear hown6 hg6)
    have HF : Hid (FirstOwn w g (S.take k) (.returned (.slice (some ⟨g6, 0, none⟩) k c6)) w6) := Lib.hid (by
      have ho := HO6.out
      rw [List.nil_append, Nat.zero_add] at ho
      have hh := HT.out
      unfold FirstOwn
      rw [hh]
      exact ⟨g6, c6, rfl, ho, (HU.out.trans (Upd.alloc w2 _)).grow HG6.out (fun q hq => by have := Option.some.inj hq; omega)⟩)
    clear HO6 HG6 HO HN
    (try simp only [Exit.inBlock, Exit.then])
    go_ret
    exact HF.out
  · have hmin : min (k : Int) (n : Int) = (n : Int) := by omega
    have HTT : Hid (S.take k = S) := Lib.hid (List.take_of_length_le (by rw [HL.out]; omega))
    have HT := HL
    rw [HTT.out]
    go_enter Try.func44, Try.ntmps44
    go_wp2_with fail
    refine SO.out.mono ?_
    rintro e w2 ⟨rfl, hu, hh⟩
    have HU := Lib.hid hu
    have hs2 := hu.size
    have HO := Lib.hid (owns_empty w2 w.heap.size 52 2 hs2)
    have HN := Lib.hid (hh.below (below_alloc w2 (.cells #[] 52))).vals
    have hsa : w.heap.size ≤ (w2.alloc (.cells #[] 52)).heap.size := by simp; omega
    clear hu hh
    go_wp2_with (at_builtin; refine appendS rfl _ _ 34 rfl w.heap.size 52 Try.underlying34 infoHit rfl (by omega) (by omega) w2.heap.size 0 0 [] rfl HO.out ⟨g, 0, none⟩ n cap (flatH S) rfl (by rw [flatH_length, HT.out]) HN.out (flatH_cells _) (by omega) hsa ?_; intro g6 c6 w6 hown6 hc6 hg6; have HO6 := Lib.hid hown6; have HG6 := Lib.hid hg6; clear hown6 hg6)
    have HF : Hid (FirstOwn w g S (.returned (.slice (some ⟨g6, 0, none⟩) n c6)) w6) := Lib.hid (by
      have ho := HO6.out
      rw [List.nil_append, Nat.zero_add] at ho
      have hh := HT.out
      unfold FirstOwn
      rw [hh]
      exact ⟨g6, c6, rfl, ho, (HU.out.trans (Upd.alloc w2 _)).grow HG6.out (fun q hq => by have := Option.some.inj hq; omega)⟩)
    clear HO6 HG6 HO HN
    (try simp only [Exit.inBlock, Exit.then])
    go_ret
    exact HF.out
theorem offB {V b : Nat} (h : V ≠ b) : b < V ∨ V + 1 ≤ b := by omega
theorem offX {F V x : Nat} (h1 : F ≠ x) (h2 : V ≠ x) : ¬ (x = F ∨ x = V) := fun e => e.elim (fun e => h1 e.symm) (fun e => h2 e.symm)
/-- the ways through a region, as one -/
def Merged (f : Nat → Nat → Nat → Nat → Act) (H : Nat → Nat → Nat → Nat → World → Prop) : Exit → Act → World → Prop
  | .normal, a, w' => ∃ n1 n2 n3 n4, a = f n1 n2 n3 n4 ∧ H n1 n2 n3 n4 w'
  | _, _, _ => False
theorem wp_merge {P : Program} {cd : Code} {Q : Exit → Act → World → Prop} {a : Act} {w : World} (f : Nat → Nat → Nat → Nat → Act) (H : Nat → Nat → Nat → Nat → World → Prop) (h1 : cd.wp P (Merged f H) a w) (h2 : ∀ n1 n2 n3 n4 w', H n1 n2 n3 n4 w' → Q .normal (f n1 n2 n3 n4) w') : cd.wp P Q a w :=
  Code.wp_mono (fun e a' w' hm => by
    cases e
    case normal =>
      obtain ⟨n1, n2, n3, n4, ha, hh⟩ := hm
      subst ha
      exact h2 n1 n2 n3 n4 w' hh
    all_goals exact hm.elim) h1
theorem cells4_0 {w : World} {B : Nat} {x y z u : Value} {t : TypeId} (h : w.heap[B]? = some (.cells #[x, y, z, u] t (0, 0))) : w.cell? ⟨B, 0, none⟩ = some x := by simp [World.cell?, h]
theorem cells4_1 {w : World} {B : Nat} {x y z u : Value} {t : TypeId} (h : w.heap[B]? = some (.cells #[x, y, z, u] t (0, 0))) : w.cell? ⟨B, 1, none⟩ = some y := by simp [World.cell?, h]
theorem cells4_2 {w : World} {B : Nat} {x y z u : Value} {t : TypeId} (h : w.heap[B]? = some (.cells #[x, y, z, u] t (0, 0))) : w.cell? ⟨B, 2, none⟩ = some z := by simp [World.cell?, h]
theorem cells4_3 {w : World} {B : Nat} {x y z u : Value} {t : TypeId} (h : w.heap[B]? = some (.cells #[x, y, z, u] t (0, 0))) : w.cell? ⟨B, 3, none⟩ = some u := by simp [World.cell?, h]
/-- the closures' variables lie in different blocks -/
def Apart (base P V bk bl ba Fd bn Lk R : Nat) : Prop :=
  (V ≠ P ∧ V ≠ bk ∧ V ≠ bl ∧ V ≠ ba ∧ V ≠ Fd ∧ V ≠ bn ∧ V ≠ Lk ∧ V ≠ R) ∧ (Fd ≠ P ∧ Fd ≠ bk ∧ Fd ≠ bl ∧ Fd ≠ ba ∧ Fd ≠ bn ∧ Fd ≠ Lk ∧ Fd ≠ R) ∧ base ≤ V ∧ base ≤ Fd
/-- a search on its way: h found, in the row p; s nodes looked at -/
structure LookAt (w : World) (base P V bk bl ba Fd bn Lk R g c nn cap capm : Nat) (a b : Option Addr) (ll : List It) (kind : Int) (q : List Int) (k : Nat) (N : List Nd) (p hc : Nat) (h : List Ht) (s : Nat) : Prop where
  nod : BoxB w P (.slice (some ⟨g, 0, none⟩) nn c) 23
  nds : w.ownsRow base 46 4 (.slice (some ⟨g, 0, none⟩) nn c) nn (flatN N)
  vis : BoxB w V (.int .i64 (s : Int)) 3
  knd : BoxB w bk (.int .i64 kind) 3
  lst : BoxB w bl (.slice a ll.length cap) 24
  vec : BoxB w ba (.slice b q.length capm) 31
  fnd : BoxB w Fd (.slice (some ⟨p, 0, none⟩) h.length hc) 34
  row : w.ownsRow base 52 2 (.slice (some ⟨p, 0, none⟩) h.length hc) h.length (flatH h)
  num : BoxB w bn (.int .i64 (k : Int)) 3
  lok : BoxB w Lk (.func (.func 41) #[] #[.pointer (some ⟨P, 0, none⟩), .pointer (some ⟨V, 0, none⟩), .pointer (some ⟨bk, 0, none⟩), .pointer (some ⟨bl, 0, none⟩), .pointer (some ⟨ba, 0, none⟩), .pointer (some ⟨Fd, 0, none⟩), .pointer (some ⟨bn, 0, none⟩), .pointer (some ⟨Lk, 0, none⟩), .pointer (some ⟨R, 0, none⟩)]) 60
  rch : BoxB w R (.func (.func 40) #[] #[.pointer (some ⟨Fd, 0, none⟩), .pointer (some ⟨bn, 0, none⟩)]) 59
  itm : Items w 0 base a ll
  qv : Ints w 0 base b q
  siz : base ≤ w.heap.size
section
variable {w w' : World} {base P V bk bl ba Fd bn Lk R g c nn cap capm : Nat} {a b : Option Addr} {ll : List It} {kind : Int} {q : List Int} {k : Nat} {N : List Nd} {p hc : Nat} {h : List Ht} {s : Nat}
theorem LookAt.below (L : LookAt w base P V bk bl ba Fd bn Lk R g c nn cap capm a b ll kind q k N p hc h s) (u : Below w.heap.size w w') : LookAt w' base P V bk bl ba Fd bn Lk R g c nn cap capm a b ll kind q k N p hc h s :=
  ⟨L.nod.below u, owns_upd L.nds (Upd.of_below (lo := 0) (hi := 0) u) (by omega), L.vis.below u, L.knd.below u, L.lst.below u, L.vec.below u, L.fnd.below u, owns_upd L.row (Upd.of_below (lo := 0) (hi := 0) u) (by omega), L.num.below u, L.lok.below u, L.rch.below u, L.itm.below u, L.qv.below u, Nat.le_trans L.siz u.size⟩
/-- one node more is looked at -/
theorem LookAt.count (L : LookAt w base P V bk bl ba Fd bn Lk R g c nn cap capm a b ll kind q k N p hc h s) (A : Apart base P V bk bl ba Fd bn Lk R) :
    LookAt (w.setCell ⟨V, 0, none⟩ (.int .i64 ((s : Int) + 1))) base P V bk bl ba Fd bn Lk R g c nn cap capm a b ll kind q k N p hc h (s + 1) ∧ Keep base 52 (fun z => z = Fd ∨ z = V) w (w.setCell ⟨V, 0, none⟩ (.int .i64 ((s : Int) + 1))) := by
  obtain ⟨⟨a1, a2, a3, a4, a5, a6, a7, a8⟩, -, a9, -⟩ := A
  have u := upd_set w V 0 (.int .i64 ((s : Int) + 1))
  have hg : g ≠ V := owns_box L.nds L.vis (by decide)
  have hp : p ≠ V := owns_box L.row L.vis (by decide)
  refine ⟨⟨L.nod.upd u (offB a1), owns_same L.nds (u.block g (L.nds.lt g rfl).2 (offB hg.symm)), ?_, L.knd.upd u (offB a2), L.lst.upd u (offB a3), L.vec.upd u (offB a4), L.fnd.upd u (offB a5), owns_same L.row (u.block p (L.row.lt p rfl).2 (offB hp.symm)), L.num.upd u (offB a6), L.lok.upd u (offB a7), L.rch.upd u (offB a8), L.itm.upd u (.inl a9), L.qv.upd u (.inl a9), Nat.le_trans L.siz u.size⟩, Keep.exc (.inr rfl) u⟩
  have := L.vis.set (.int .i64 ((s : Int) + 1))
  rw [show ((s + 1 : Nat) : Int) = (s : Int) + 1 by omega]
  exact this
/-- the hits are others, in the row p' -/
theorem LookAt.others {w1 w2 : World} {p' hc' pn cn nr : Nat} {h' : List Ht} {xs : List Value} (L : LookAt w base P V bk bl ba Fd bn Lk R g c nn cap capm a b ll kind q k N p hc h s) (A : Apart base P V bk bl ba Fd bn Lk R)
    (hg : w.grownBy w1 (some p)) (ho1 : w1.ownsRow base 52 2 (.slice (some ⟨pn, 0, none⟩) nr cn) nr xs) (u2 : Upd pn (pn + 1) w1 w2) (ho : w2.ownsRow w1.heap.size 52 2 (.slice (some ⟨p', 0, none⟩) h'.length hc') h'.length (flatH h')) :
    LookAt (w2.setCell ⟨Fd, 0, none⟩ (.slice (some ⟨p', 0, none⟩) h'.length hc')) base P V bk bl ba Fd bn Lk R g c nn cap capm a b ll kind q k N p' hc' h' s ∧ Keep base 52 (fun z => z = Fd ∨ z = V) w (w2.setCell ⟨Fd, 0, none⟩ (.slice (some ⟨p', 0, none⟩) h'.length hc')) ∧ BoxB w2 Fd (.slice (some ⟨p, 0, none⟩) h.length hc) 34 := by
  have k1 : Keep base 52 (fun z => z = Fd ∨ z = V) w w1 := Keep.own L.row hg
  have k2 : Keep base 52 (fun z => z = Fd ∨ z = V) w1 w2 := Keep.upd ho1 u2
  have u3 := upd_set w2 Fd 0 (.slice (some ⟨p', 0, none⟩) h'.length hc')
  have k3 : Keep base 52 (fun z => z = Fd ∨ z = V) w2 (w2.setCell ⟨Fd, 0, none⟩ (.slice (some ⟨p', 0, none⟩) h'.length hc')) := Keep.exc (.inl rfl) u3
  have kk := (k1.trans k2).trans k3
  have s1 := k1.size
  have b0 := L.siz
  -- the box of the hits, ahead of the store
  have f1 : BoxB w1 Fd (.slice (some ⟨p, 0, none⟩) h.length hc) 34 := L.fnd.block (hg.block Fd L.fnd.lt (fun e => owns_box L.row L.fnd (by decide) (Option.some.inj e.symm)))
  have f2 : BoxB w2 Fd (.slice (some ⟨p, 0, none⟩) h.length hc) 34 := f1.upd u2 (offB (owns_box ho1 f1 (by decide)))
  have hpF : p' ≠ Fd := owns_box ho f2 (by decide)
  obtain ⟨⟨a1, a2, a3, a4, a5, a6, a7, a8⟩, ⟨c1, c2, c3, c4, c5, c6, c7⟩, a9, a10⟩ := A
  have hX : ∀ z, (z = Fd ∨ z = V) → base ≤ z := fun z hz => by rcases hz with rfl | rfl <;> assumption
  have ui := kk.upd2 hX b0
  refine ⟨⟨L.nod.keep kk (by decide) (offX c1 a1), owns_same L.nds (kk.block g (L.nds.lt g rfl).2 (fun e => ?_) (.inr fun cc e => ?_)), ?_, L.knd.keep kk (by decide) (offX c2 a2), L.lst.keep kk (by decide) (offX c3 a3), L.vec.keep kk (by decide) (offX c4 a4), f2.set _, ?_, L.num.keep kk (by decide) (offX c5 a6), L.lok.keep kk (by decide) (offX c6 a7), L.rch.keep kk (by decide) (offX c7 a8), L.itm.upd ui (.inl (Nat.le_refl _)), L.qv.upd ui (.inl (Nat.le_refl _)), Nat.le_trans b0 kk.size⟩, kk, f2⟩
  · rcases e with e | e
    · exact owns_box L.nds L.fnd (by decide) e
    · exact owns_box L.nds L.vis (by decide) e
  · obtain ⟨cur, hc⟩ := owns_type L.nds
    rw [hc] at e
    simp only [Option.some.injEq, Obj.cells.injEq] at e
    exact absurd e.2.1 (by decide)
  · have v1 : BoxB w1 V (.int .i64 (s : Int)) 3 := L.vis.block (hg.block V L.vis.lt (fun e => owns_box L.row L.vis (by decide) (Option.some.inj e.symm)))
    have v2 : BoxB w2 V (.int .i64 (s : Int)) 3 := v1.upd u2 (offB (owns_box ho1 v1 (by decide)))
    exact v2.upd u3 (offB a5.symm)
  · exact owns_low (owns_same ho (u3.block p' (ho.lt p' rfl).2 (offB hpF.symm))) (Nat.le_trans b0 s1)
end
set_option maxHeartbeats 400000 in
theorem lookReach (w : World) (base P V bk bl ba Fd bn Lk R g c nn cap capm : Nat) (a b : Option Addr) (ll : List It) (kind : Int) (q : List Int) (k : Nat) (N : List Nd) (p hc : Nat) (h : List Ht) (s : Nat) (L : LookAt w base P V bk bl ba Fd bn Lk R g c nn cap capm a b ll kind q k N p hc h s) (hk : 1 ≤ k) (hl : h.length ≤ 1000) :
    Calls Try.prog 40 #[.pointer (some ⟨Fd, 0, none⟩), .pointer (some ⟨bn, 0, none⟩)] w fun e w' => e = .returned (.int .i64 (rch k h)) ∧ Drawn w w' := by
  have c4 := L.num.cell
  have c5 := L.fnd.cell
  by_cases hlt : h.length < k
  · have hr : rch k h = 1000000 := if_pos hlt
    rw [hr]
    have hlt' : (h.length : Int) < (k : Int) := by omega
    clear L hr
    obtain ⟨n, en⟩ : ∃ n, h.length = n := ⟨_, rfl⟩
    rw [en] at c5 hlt'
    clear en hlt
    go_enter Try.func40, Try.ntmps40
    go_wp2_with fail
    go_ret
    exact ⟨rfl, Drawn.refl _⟩
  · obtain ⟨n, en⟩ : ∃ n, h.length = n + 1 := ⟨h.length - 1, by omega⟩
    have hr : rch k h = (h.getD n Ht.no).dist := by unfold rch; rw [if_neg hlt, en, Nat.add_sub_cancel]
    rw [hr]
    have q1 := L.row.cellAt (n * 2 + 1) (by omega)
    rw [flatH_1 (by omega)] at q1
    obtain ⟨d, ed⟩ : ∃ d, (h.getD n Ht.no).dist = d := ⟨_, rfl⟩
    rw [ed] at q1 ⊢
    rw [en] at c5
    have hlt' : ¬ (n : Int) + 1 < (k : Int) := by omega
    have hwn : IntKind.i64.wrap (n : Int) = (n : Int) := wrap_in (by omega)
    have hnn : (n : Int) < (n : Int) + 1 := by omega
    clear L hr en ed hlt
    go_enter Try.func40, Try.ntmps40
    go_wp2_with fail
    go_ret
    exact ⟨rfl, Drawn.refl _⟩
def LookPost (w : World) (base P V bk bl ba Fd bn Lk R g c nn cap capm : Nat) (a b : Option Addr) (ll : List It) (kind : Int) (q : List Int) (k : Nat) (N : List Nd) (h : List Ht) (s : Nat) (e : Ending) (w' : World) : Prop :=
  ∃ p hc, e = .returned (.tuple #[]) ∧ LookAt w' base P V bk bl ba Fd bn Lk R g c nn cap capm a b ll kind q k N p hc h s ∧ Keep base 52 (fun z => z = Fd ∨ z = V) w w'
set_option maxRecDepth 100000 in
set_option maxHeartbeats 8000000 in
theorem look_any (base P V bk bl ba Fd bn Lk R g c nn cap capm : Nat) (a b : Option Addr) (ll : List It) (kind : Int) (q : List Int) (k : Nat) (N : List Nd) (A : Apart base P V bk bl ba Fd bn Lk R) (hst : storeB ll = true) (hq : vecB q 4 = true) (hk : 1 ≤ k ∧ k ≤ 16) (hN : N.length = nn ∧ nn ≤ 1000) :
    ∀ (t : Tr) (i : Nat), SubN N t i → (∀ x ∈ t.items, ∃ j, j < ll.length ∧ ll.getD j It.no = x) → ∀ (w : World) (p hc : Nat) (h : List Ht) (s : Nat), LookAt w base P V bk bl ba Fd bn Lk R g c nn cap capm a b ll kind q k N p hc h s → (WH h ∧ BdH h) → h.length ≤ k → s + t.size ≤ 1000 →
    Calls Try.prog 41 #[.int .i64 (t.top i), .pointer (some ⟨P, 0, none⟩), .pointer (some ⟨V, 0, none⟩), .pointer (some ⟨bk, 0, none⟩), .pointer (some ⟨bl, 0, none⟩), .pointer (some ⟨ba, 0, none⟩), .pointer (some ⟨Fd, 0, none⟩), .pointer (some ⟨bn, 0, none⟩), .pointer (some ⟨Lk, 0, none⟩), .pointer (some ⟨R, 0, none⟩)] w (LookPost w base P V bk bl ba Fd bn Lk R g c nn cap capm a b ll kind q k N (t.vis kind q k h).1 (s + (t.vis kind q k h).2)) := by
  intro t
  induction t with
  | nil =>
    intro i _ _ w p hc h s L hw hl hs
    show Calls Try.prog 41 #[.int .i64 (-1), .pointer (some ⟨P, 0, none⟩), .pointer (some ⟨V, 0, none⟩), .pointer (some ⟨bk, 0, none⟩), .pointer (some ⟨bl, 0, none⟩), .pointer (some ⟨ba, 0, none⟩), .pointer (some ⟨Fd, 0, none⟩), .pointer (some ⟨bn, 0, none⟩), .pointer (some ⟨Lk, 0, none⟩), .pointer (some ⟨R, 0, none⟩)] w _
    have HF : Hid (LookPost w base P V bk bl ba Fd bn Lk R g c nn cap capm a b ll kind q k N (Tr.nil.vis kind q k h).1 (s + (Tr.nil.vis kind q k h).2) (.returned (.tuple #[])) w) := Lib.hid ⟨p, hc, rfl, L, Keep.refl _ _ _ _⟩
    clear L
    go_enter Try.func41, Try.ntmps41
    go_wp2_with fail
    (try simp only [Exit.inBlock, Exit.then])
    refine bodyPost_ret (v := .tuple #[]) (by simp [results, Try.results41, go_sem]) rfl ?_
    exact HF.out
  | node x r ta tb iha ihb =>
    intro i hsub hit w p hc h s L hw hl hs
    have IA := Lib.hid iha
    have IB := Lib.hid ihb
    have HA := Lib.hid A
    obtain ⟨hi, htop⟩ := hsub.top
    have SA := Lib.hid hsub.near
    have SB := Lib.hid hsub.far
    have hin : (i : Int) < (nn : Int) := by have := hN.1; omega
    have hi0 : ¬ (i : Int) < 0 := by omega
    obtain ⟨j, hj, hjx⟩ := hit x (List.mem_cons_self ..)
    have HIA : Hid (∀ y ∈ ta.items, ∃ j, j < ll.length ∧ ll.getD j It.no = y) := Lib.hid fun y hy => hit y (List.mem_cons_of_mem _ (List.mem_append_left _ hy))
    have HIB : Hid (∀ y ∈ tb.items, ∃ j, j < ll.length ∧ ll.getD j It.no = y) := Lib.hid fun y hy => hit y (List.mem_cons_of_mem _ (List.mem_append_right _ hy))
    obtain ⟨na, ena⟩ : ∃ z, ta.top (i + 1) = z := ⟨_, rfl⟩
    obtain ⟨nb, enb⟩ : ∃ z, tb.top (i + 1 + ta.size) = z := ⟨_, rfl⟩
    rw [ena, enb] at htop
    have HNA := Lib.hid ena
    have HNB := Lib.hid enb
    show Calls Try.prog 41 #[.int .i64 (i : Int), .pointer (some ⟨P, 0, none⟩), .pointer (some ⟨V, 0, none⟩), .pointer (some ⟨bk, 0, none⟩), .pointer (some ⟨bl, 0, none⟩), .pointer (some ⟨ba, 0, none⟩), .pointer (some ⟨Fd, 0, none⟩), .pointer (some ⟨bn, 0, none⟩), .pointer (some ⟨Lk, 0, none⟩), .pointer (some ⟨R, 0, none⟩)] w _
    -- one node more
    have cP := L.nod.cell
    have cV := L.vis.cell
    have fV := L.vis.fz 0
    obtain ⟨L1, K1⟩ := L.count A
    have hsz1 : (w.setCell ⟨V, 0, none⟩ (.int .i64 ((s : Int) + 1))).heap.size = w.heap.size := by simp [World.setCell]
    obtain ⟨w1, hw1⟩ : ∃ w1, w.setCell ⟨V, 0, none⟩ (.int .i64 ((s : Int) + 1)) = w1 := ⟨_, rfl⟩
    rw [hw1] at L1 K1 hsz1
    have cP1 := L1.nod.cell
    obtain ⟨n0, n1, n2, n3⟩ := nodesR_own L1.nds i hi
    rw [htop] at n0 n1 n2 n3
    dsimp only at n0 n1 n2 n3
    have hs1k : (s : Int) + 1 ≤ 1000 := by have : s + (1 + ta.size + tb.size) ≤ 1000 := hs; omega
    -- the node, in its place
    have hb2 := below_alloc w1 (.cells #[.int .i64 x.key, .int .i64 r, .int .i64 na, .int .i64 nb] 46)
    have hM : (w1.alloc (.cells #[.int .i64 x.key, .int .i64 r, .int .i64 na, .int .i64 nb] 46)).heap[w1.heap.size]? = some (.cells #[.int .i64 x.key, .int .i64 r, .int .i64 na, .int .i64 nb] 46 (0, 0)) := heap_alloc_new w1 _
    obtain ⟨m0, m1, m2, m3⟩ := cells4_new w1 (.int .i64 x.key) (.int .i64 r) (.int .i64 na) (.int .i64 nb) 46
    have hsz2 : (w1.alloc (.cells #[.int .i64 x.key, .int .i64 r, .int .i64 na, .int .i64 nb] 46)).heap.size = w1.heap.size + 1 := by simp
    obtain ⟨w2, hw2⟩ : ∃ w2, w1.alloc (.cells #[.int .i64 x.key, .int .i64 r, .int .i64 na, .int .i64 nb] 46) = w2 := ⟨_, rfl⟩
    rw [hw2] at hb2 hM m0 m1 m2 m3 hsz2
    have L2 := L1.below hb2
    have K2 : Keep base 52 (fun z => z = Fd ∨ z = V) w w2 := K1.trans (Keep.of_below hb2)
    have hFl : Fd < w1.heap.size := L1.fnd.lt
    have hVl : V < w1.heap.size := L1.vis.lt
    have HL2 := Lib.hid L2
    have HK2 := Lib.hid K2
    have HM := Lib.hid hM
    have HSZ := Lib.hid (And.intro hsz1 hsz2)
    have HST := Lib.hid hst
    have HQ := Lib.hid hq
    have HN := Lib.hid hN
    have HW := Lib.hid hw
    have HJX := Lib.hid (And.intro hj hjx)
    clear L L1 L2 K1 K2 hM hsz1 hsz2 hst hq hN hw hsub hit htop ena enb iha ihb hjx hb2 A
    go_enter Try.func41, Try.ntmps41
    go_wp2_with fail
    clear hw1 hw2 n0 n1 n2 n3 cP cV fV cP1
    obtain ⟨M, eM⟩ : ∃ M, w1.heap.size = M := ⟨_, rfl⟩
    rw [eM] at m0 m1 m2 m3 HM HSZ hFl hVl ⊢
    -- its distance
    have k3 := HL2.out.knd.cell
    have l3 := HL2.out.lst.cell
    have v3 := HL2.out.vec.cell
    obtain ⟨bb, off, ea, _, _, aj, cj, q0, q1, q2, qx, _⟩ := HL2.out.itm.at_ HJX.out.1
    subst ea
    have VX := Lib.hid (storeB_vec HST.out HJX.out.1)
    rw [HJX.out.2] at q1 qx VX
    have hx4 : x.pos.length = 4 := by have := vecB_len VX.out; omega
    have hq4 : q.length = 4 := by have := vecB_len HQ.out; omega
    have IX := Lib.hid (met_below (fun w' hw' => indexOf_any w' 0 base (some ⟨bb, off, none⟩) cap j ll x.key (HL2.out.itm.below hw') ((storeB_AscI HST.out).nodup) HJX.out.1 (by rw [HJX.out.2])) (w := w2))
    have DX := Lib.hid (met_below (fun w' hw' => (implDistance w' _ _ _ _ _ _ cj capm x.pos q kind (qx.below hw') (HL2.out.qv.below hw') (vecB_coords VX.out) (vecB_coords HQ.out) (by omega) (by omega)).mono fun _ _ hh => ⟨hh.1, hh.2.below⟩) (w := w2))
    rw [hx4] at DX q1
    obtain ⟨d, ed⟩ : ∃ d, dst kind x.pos q 4 = d := ⟨_, rfl⟩
    have HED := Lib.hid ed
    have HDB : Hid (0 ≤ d ∧ d ≤ 160000) := Lib.hid (by have := dst_bd kind (vecB_coords VX.out) (vecB_coords HQ.out) 4; rw [ed] at this; omega)
    rw [ed] at DX
    have hji : (j : Int) < ll.length := by have := HJX.out.1; omega
    have r1 := cell_regrown q1
    have r2 := cell_regrown k3
    have r3 := cell_regrown l3
    have r4 := cell_regrown v3
    have r5 := cell_regrown m0
    have HMM := Lib.hid (And.intro m0 (And.intro m1 (And.intro m2 m3)))
    clear q0 q1 q2 qx k3 l3 v3 m0 m1 m2 m3 ed hx4 hq4 eM
    refine wp_region_quiet_below (by kernel_rfl) (by kernel_rfl) ?_
    repeat (go_big_quiet_step (first | (go_at_call 43; exact IX.out _ _) | (go_at_call 42; exact DX.out _ _)))
    refine wpQuiet_nil ?_
    intro _ hw'
    obtain ⟨⟨dq, osq⟩, hw''⟩ := hw'
    subst hw''
    have HB3 : Hid (Below w2.heap.size w2 (Go.Sort.grow (redrawn w2 dq) osq)) := Lib.hid (below_regrown w2 dq osq)
    obtain ⟨w3, hw3⟩ : ∃ w3, Go.Sort.grow (redrawn w2 dq) osq = w3 := ⟨_, rfl⟩
    rw [hw3] at HB3 ⊢
    clear hw3 r1 r2 r3 r4 r5 IX DX hji
    go_wp2_with fail
    -- one hit more
    have L3 := HL2.out.below HB3.out
    have K3 : Keep base 52 (fun z => z = Fd ∨ z = V) w w3 := HK2.out.trans (Keep.of_below HB3.out)
    have hM3 : w3.heap[M]? = some (.cells #[.int .i64 x.key, .int .i64 r, .int .i64 na, .int .i64 nb] 46 (0, 0)) := (HB3.out.block M (by have := HSZ.out; omega)).trans HM.out
    have hbA : Below w3.heap.size w3 (w3.drew.alloc (.cells #[.int .i64 x.key, .int .i64 d] 52)) := (Below.refl _ w3).drew.alloc (Nat.le_refl _) _
    have LA := L3.below hbA
    have hMA : (w3.drew.alloc (.cells #[.int .i64 x.key, .int .i64 d] 52)).heap[M]? = some (.cells #[.int .i64 x.key, .int .i64 r, .int .i64 na, .int .i64 nb] 46 (0, 0)) := (hbA.block M (Array.getElem?_eq_some_iff.1 hM3).1).trans hM3
    have hKA : Keep base 52 (fun z => z = Fd ∨ z = V) w (w3.drew.alloc (.cells #[.int .i64 x.key, .int .i64 d] 52)) := K3.trans (Keep.of_below hbA)
    have hMX : ¬ (M = Fd ∨ M = V) := by omega
    have hMT : ∀ cc, (w3.drew.alloc (.cells #[.int .i64 x.key, .int .i64 d] 52)).heap[M]? ≠ some (.cells cc 52 (0, 0)) := fun cc e => by
      rw [hMA] at e
      simp only [Option.some.injEq, Obj.cells.injEq] at e
      exact absurd e.2.1 (by decide)
    have HMK := Lib.hid (show ∀ w', Keep base 52 (fun z => z = Fd ∨ z = V) (w3.drew.alloc (.cells #[.int .i64 x.key, .int .i64 d] 52)) w' → w'.heap[M]? = some (.cells #[.int .i64 x.key, .int .i64 r, .int .i64 na, .int .i64 nb] 46 (0, 0)) from fun w' kk => (kk.block M (Array.getElem?_eq_some_iff.1 hMA).1 hMX (.inr hMT)).trans hMA)
    have HKK := Lib.hid (show ∀ w', Keep base 52 (fun z => z = Fd ∨ z = V) (w3.drew.alloc (.cells #[.int .i64 x.key, .int .i64 d] 52)) w' → w'.cell? ⟨M, 0, none⟩ = some (.int .i64 x.key) ∧ w'.cell? ⟨bn, 0, none⟩ = some (.int .i64 (k : Int)) from fun w' kk => ⟨cells4_0 (HMK.out w' kk), (LA.num.keep kk (by decide) (offX HA.out.2.1.2.2.2.2.1 HA.out.1.2.2.2.2.2.1)).cell⟩)
    have HKS := Lib.hid (show ∀ w', Below w3.heap.size w3 w' → w'.cell? ⟨M, 0, none⟩ = some (.int .i64 x.key) ∧ w'.cell? ⟨bn, 0, none⟩ = some (.int .i64 (k : Int)) from fun w' bl => ⟨cell_later bl (cells4_0 hM3), (L3.num.below bl).cell⟩)
    have HDR : Hid (Below w3.heap.size w3 w3.drew) := Lib.hid (Below.refl _ w3).drew
    have HBA := Lib.hid hbA
    have HLA := Lib.hid LA
    have HKA := Lib.hid hKA
    have HNX : Hid (∀ j u, [Value.int .i64 x.key, .int .i64 d][j]? = some u → (w3.drew.alloc (.cells #[.int .i64 x.key, .int .i64 d] 52)).cell? ((⟨w3.heap.size, 0, none⟩ : Addr).add j) = some u) := Lib.hid (news2_new w3.drew (.int .i64 x.key) (.int .i64 d) 52)
    have fF := L3.fnd.cell
    have fA := LA.fnd.cell
    have hbs : base ≤ (w3.drew.alloc (.cells #[.int .i64 x.key, .int .i64 d] 52)).heap.size := LA.siz
    obtain ⟨h1, eh1⟩ : ∃ h1, (insH ⟨x.key, d⟩ h).take k = h1 := ⟨_, rfl⟩
    have h1l : 1 ≤ h1.length ∧ h1.length ≤ k ∧ h1.length ≤ h.length + 1 := by rw [← eh1, List.length_take, insH_length]; omega
    have h1w : WH h1 ∧ BdH h1 := by rw [← eh1]; exact ⟨wh_take (wh_ins HW.out.1) k, ins_bd HW.out.2 ⟨HDB.out.1, by have := HDB.out.2; show d ≤ _; omega⟩⟩
    have HFH := Lib.hid (show ∀ (w7 : World) (p7 c7 : Nat), w7.ownsRow base 52 2 (.slice (some ⟨p7, 0, none⟩) (h.length + 1) c7) (h.length + 1) (flatH h ++ [.int .i64 x.key, .int .i64 d]) → Calls Try.prog 44 #[.slice (some ⟨p7, 0, none⟩) (h.length + 1) c7, .int .i64 (k : Int)] w7 (FirstOwn w7 p7 h1) from fun w7 p7 c7 ho => by
      have F := firstHits_own w7 base p7 (h.length + 1) c7 k (h ++ [⟨x.key, d⟩]) (by rw [flatH_app, flatH_one]; exact ho) (by omega) (by omega)
      rw [mergeH_ins HW.out.1, eh1] at F
      exact F)
    have HE1 := Lib.hid eh1
    have HL1 := Lib.hid (And.intro h1l h1w)
    clear L3 K3 hM3 hbA LA hMA hKA hMX hMT eh1 h1l h1w
    have e1 := (HKS.out _ HDR.out).1
    have e2 := (HKS.out _ HDR.out).2
    have e3 : (w3.alloc (.cells #[.int .i64 x.key, .int .i64 d] 52)).cell? ⟨bn, 0, none⟩ = some (.int .i64 (k : Int)) := (HKS.out _ HBA.out).2
    have fB : (w3.alloc (.cells #[.int .i64 x.key, .int .i64 d] 52)).cell? ⟨Fd, 0, none⟩ = some (.slice (some ⟨p, 0, none⟩) h.length hc) := fA
    apply wp_merge (H := fun p7 c7 p8 c8 w9 => LookAt w9 base P V bk bl ba Fd bn Lk R g c nn cap capm (some ⟨bb, off, none⟩) b ll kind q k N p8 c8 h1 (s + 1) ∧ Keep base 52 (fun z => z = Fd ∨ z = V) (w3.drew.alloc (.cells #[.int .i64 x.key, .int .i64 d] 52)) w9)
    case h1 =>
      go_region_law (first
          | (go_simp; go_at_call 44; refine (HFH.out _ _ _ HO7.out).mono ?_; rintro e w8 ⟨p8, c8, rfl, ho8, hu8⟩; have O := HLA.out.others HA.out HG7.out HO7.out hu8 ho8; have HK9 := Lib.hid O.2.1; have HL9 := Lib.hid O.1; have f8 := O.2.2.cell; have z8 := O.2.2.fz 0; clear O ho8 hu8)
          | (refine step_append_at rfl (.tmp 38) (.tmp 43) 34 rfl base 52 Try.underlying34 infoHit rfl (by omega) (by omega) (.slice (some ⟨p, 0, none⟩) h.length hc) h.length (flatH h) rfl HLA.out.row ⟨w3.heap.size, 0, none⟩ 1 1 [.int .i64 x.key, .int .i64 d] rfl rfl HNX.out (htCells_one ⟨x.key, d⟩) (by omega) hbs ?_; intro v7 w7 hown7 hg7 hv7; obtain ⟨p7, c7, rfl, hp7, hpc7, hpd7⟩ := owns_shape hown7 (by omega); have HO7 := Lib.hid hown7; have HG7 := Lib.hid hg7; have e7 := (HKK.out w7 (Keep.own HLA.out.row hg7)).2; clear hown7 hg7 hv7))
      all_goals exact ⟨p7, c7, p8, c8, rfl, HL9.out, HK9.out⟩
    case h2 =>
      intro p7 c7 p8 c8 w9 hh
      have HL9 := Lib.hid hh.1
      have HK9 := Lib.hid hh.2
      clear hh HFH HNX HKS HKK HBA HLA HDR fF fA fB e1 e2 e3 hbs
      have hM9 := HMK.out w9 HK9.out
      have m1 := cells4_1 hM9
      have m2 := cells4_2 hM9
      have m3 := cells4_3 hM9
      have l9 := HL9.out.lok.cell
      have HKW := Lib.hid (HKA.out.trans HK9.out)
      clear hM9 HKA
      by_cases hdr : d ≤ r
      ·
        have HLAW := Lib.hid (vis_in (a := ta) (b := tb) HED.out HE1.out hdr)
        have V1 := IA.out (i + 1) SA.out HIA.out w9 p8 c8 h1 (s + 1) HL9.out HL1.out.2 HL1.out.1.2.1 (by have : s + (1 + ta.size + tb.size) ≤ 1000 := hs; omega)
        rw [HNA.out] at V1
        have hp2 := Tr.vis_le kind q k ta h1
        have hp3 := Tr.vis_len kind q k ta h1 HL1.out.1.2.1
        have hp4 := Tr.vis_wh kind q k ta h1 HL1.out.2.1
        have hp5 := vis_bd (kind := kind) (t := ta) (k := k) HL1.out.2.2 (vecB_coords HQ.out) (fun z hz => by
          obtain ⟨j', hj', rfl⟩ := HIA.out z hz
          exact vecB_coords (storeB_vec HST.out hj'))
        obtain ⟨⟨z, zn⟩, ez⟩ : ∃ z, (ta).vis kind q k h1 = z := ⟨_, rfl⟩
        rw [ez] at V1 HLAW hp2 hp3 hp4 hp5
        dsimp only at V1 HLAW hp2 hp3 hp4 hp5
        have hrb := rch_bd hp5 hk.1
        have HP := Lib.hid (And.intro hp2 (And.intro hp3 (And.intro hp4 hp5)))
        obtain ⟨R9, eR⟩ : ∃ R9, rch k z = R9 := ⟨_, rfl⟩
        rw [eR] at HLAW hrb
        have HR := Lib.hid eR
        have HV1 := Lib.hid V1
        clear hp2 hp3 hp4 hp5 ez eR V1
        go_wp2_with fail
        refine HV1.out.mono ?_
        rintro e W7 ⟨p9, c9, rfl, L7, k7⟩
        have hM7 := HMK.out W7 (HK9.out.trans k7)
        have n1 := cells4_1 hM7
        have n2 := cells4_2 hM7
        have n3 := cells4_3 hM7
        have l7 := L7.lok.cell
        have r7 := L7.rch.cell
        have HL7 := Lib.hid L7
        have HK7 := Lib.hid (HKW.out.trans k7)
        have RC := Lib.hid fun t : Nat => lookReach (W7.drewN t) base P V bk bl ba Fd bn Lk R g c nn cap capm (some ⟨bb, off, none⟩) b ll kind q k N p9 c9 z (s + 1 + zn) (HL7.out.below (Drawn.below ⟨t, rfl⟩)) hk.1 (by have := HP.out.2.1; omega)
        rw [HR.out] at RC
        have hdb := HDB.out
        have hwr : IntKind.i64.wrap (d + R9) = d + R9 := wrap_in (by omega)
        clear L7 k7 hM7 m1 m2 m3 l9
        by_cases hcc : r ≤ d + R9
        · have HF : Hid (∀ W9, LookPost W7 base P V bk bl ba Fd bn Lk R g c nn cap capm (some ⟨bb, off, none⟩) b ll kind q k N ((tb).vis kind q k z).1 (s + 1 + zn + ((tb).vis kind q k z).2) (.returned (.tuple #[])) W9 → LookPost w base P V bk bl ba Fd bn Lk R g c nn cap capm (some ⟨bb, off, none⟩) b ll kind q k N ((Tr.node x r ta tb).vis kind q k h).1 (s + ((Tr.node x r ta tb).vis kind q k h).2) (.returned (.tuple #[])) W9) := Lib.hid fun W9 hv => by
            obtain ⟨p10, c10, -, v2, v3⟩ := hv
            rw [HLAW.out, if_pos hcc]
            dsimp only
            rw [show s + (1 + zn + ((tb).vis kind q k z).2) = s + 1 + zn + ((tb).vis kind q k z).2 by omega]
            exact ⟨p10, c10, rfl, v2, HK7.out.trans v3⟩
          go_wp2_with fail
          go_quiet ((go_at_call 40; exact quiet_drawn (RC.out _)))
          have V2 := IB.out (i + 1 + ta.size) SB.out HIB.out (W7.drewN nq) p9 c9 z (s + 1 + zn) (HL7.out.below (Drawn.below ⟨nq, rfl⟩)) ⟨HP.out.2.2.1, HP.out.2.2.2⟩ HP.out.2.1 (by have : s + (1 + ta.size + tb.size) ≤ 1000 := hs; have := HP.out.1; omega)
          rw [HNB.out] at V2
          have HV2 := Lib.hid V2
          clear V2
          go_wp2_with fail
          refine HV2.out.mono ?_
          rintro e W9 ⟨p10, c10, rfl, v2, v3⟩
          have HG := Lib.hid (HF.out W9 ⟨p10, c10, rfl, v2, (Keep.drawn ⟨nq, rfl⟩).trans v3⟩)
          clear v2 v3
          go_wp2_with fail
          (try simp only [Exit.inBlock, Exit.then])
          refine bodyPost_ret (v := .tuple #[]) (by simp [results, Try.results41, go_sem]) rfl ?_
          exact HG.out
        · have HF : Hid (∀ t : Nat, LookPost w base P V bk bl ba Fd bn Lk R g c nn cap capm (some ⟨bb, off, none⟩) b ll kind q k N ((Tr.node x r ta tb).vis kind q k h).1 (s + ((Tr.node x r ta tb).vis kind q k h).2) (.returned (.tuple #[])) (W7.drewN t)) := Lib.hid fun t => by
            rw [HLAW.out, if_neg hcc]
            dsimp only
            rw [show s + (1 + zn) = s + 1 + zn by omega]
            exact ⟨p9, c9, rfl, HL7.out.below (Drawn.below ⟨t, rfl⟩), HK7.out.trans (Keep.drawn ⟨t, rfl⟩)⟩
          have hcd : decide (r ≤ d + R9) = false := decide_eq_false hcc
          clear hcc HLAW
          go_wp2_with fail
          go_quiet ((go_at_call 40; exact quiet_drawn (RC.out _)))
          go_wp2_with fail
          (try simp only [Exit.inBlock, Exit.then])
          refine bodyPost_ret (v := .tuple #[]) (by simp [results, Try.results41, go_sem]) rfl ?_
          exact HF.out _
      ·
        have HLAW := Lib.hid (vis_out (a := ta) (b := tb) HED.out HE1.out hdr)
        have V1 := IB.out (i + 1 + ta.size) SB.out HIB.out w9 p8 c8 h1 (s + 1) HL9.out HL1.out.2 HL1.out.1.2.1 (by have : s + (1 + ta.size + tb.size) ≤ 1000 := hs; omega)
        rw [HNB.out] at V1
        have hp2 := Tr.vis_le kind q k tb h1
        have hp3 := Tr.vis_len kind q k tb h1 HL1.out.1.2.1
        have hp4 := Tr.vis_wh kind q k tb h1 HL1.out.2.1
        have hp5 := vis_bd (kind := kind) (t := tb) (k := k) HL1.out.2.2 (vecB_coords HQ.out) (fun z hz => by
          obtain ⟨j', hj', rfl⟩ := HIB.out z hz
          exact vecB_coords (storeB_vec HST.out hj'))
        obtain ⟨⟨z, zn⟩, ez⟩ : ∃ z, (tb).vis kind q k h1 = z := ⟨_, rfl⟩
        rw [ez] at V1 HLAW hp2 hp3 hp4 hp5
        dsimp only at V1 HLAW hp2 hp3 hp4 hp5
        have hrb := rch_bd hp5 hk.1
        have HP := Lib.hid (And.intro hp2 (And.intro hp3 (And.intro hp4 hp5)))
        obtain ⟨R9, eR⟩ : ∃ R9, rch k z = R9 := ⟨_, rfl⟩
        rw [eR] at HLAW hrb
        have HR := Lib.hid eR
        have HV1 := Lib.hid V1
        clear hp2 hp3 hp4 hp5 ez eR V1
        go_wp2_with fail
        refine HV1.out.mono ?_
        rintro e W7 ⟨p9, c9, rfl, L7, k7⟩
        have hM7 := HMK.out W7 (HK9.out.trans k7)
        have n1 := cells4_1 hM7
        have n2 := cells4_2 hM7
        have n3 := cells4_3 hM7
        have l7 := L7.lok.cell
        have r7 := L7.rch.cell
        have HL7 := Lib.hid L7
        have HK7 := Lib.hid (HKW.out.trans k7)
        have RC := Lib.hid fun t : Nat => lookReach (W7.drewN t) base P V bk bl ba Fd bn Lk R g c nn cap capm (some ⟨bb, off, none⟩) b ll kind q k N p9 c9 z (s + 1 + zn) (HL7.out.below (Drawn.below ⟨t, rfl⟩)) hk.1 (by have := HP.out.2.1; omega)
        rw [HR.out] at RC
        have hdb := HDB.out
        have hwr : IntKind.i64.wrap (d - R9) = d - R9 := wrap_in (by omega)
        clear L7 k7 hM7 m1 m2 m3 l9
        by_cases hcc : d - R9 ≤ r
        · have HF : Hid (∀ W9, LookPost W7 base P V bk bl ba Fd bn Lk R g c nn cap capm (some ⟨bb, off, none⟩) b ll kind q k N ((ta).vis kind q k z).1 (s + 1 + zn + ((ta).vis kind q k z).2) (.returned (.tuple #[])) W9 → LookPost w base P V bk bl ba Fd bn Lk R g c nn cap capm (some ⟨bb, off, none⟩) b ll kind q k N ((Tr.node x r ta tb).vis kind q k h).1 (s + ((Tr.node x r ta tb).vis kind q k h).2) (.returned (.tuple #[])) W9) := Lib.hid fun W9 hv => by
            obtain ⟨p10, c10, -, v2, v3⟩ := hv
            rw [HLAW.out, if_pos hcc]
            dsimp only
            rw [show s + (1 + zn + ((ta).vis kind q k z).2) = s + 1 + zn + ((ta).vis kind q k z).2 by omega]
            exact ⟨p10, c10, rfl, v2, HK7.out.trans v3⟩
          go_wp2_with fail
          go_quiet ((go_at_call 40; exact quiet_drawn (RC.out _)))
          have V2 := IA.out (i + 1) SA.out HIA.out (W7.drewN nq) p9 c9 z (s + 1 + zn) (HL7.out.below (Drawn.below ⟨nq, rfl⟩)) ⟨HP.out.2.2.1, HP.out.2.2.2⟩ HP.out.2.1 (by have : s + (1 + ta.size + tb.size) ≤ 1000 := hs; have := HP.out.1; omega)
          rw [HNA.out] at V2
          have HV2 := Lib.hid V2
          clear V2
          go_wp2_with fail
          refine HV2.out.mono ?_
          rintro e W9 ⟨p10, c10, rfl, v2, v3⟩
          have HG := Lib.hid (HF.out W9 ⟨p10, c10, rfl, v2, (Keep.drawn ⟨nq, rfl⟩).trans v3⟩)
          clear v2 v3
          go_wp2_with fail
          (try simp only [Exit.inBlock, Exit.then])
          refine bodyPost_ret (v := .tuple #[]) (by simp [results, Try.results41, go_sem]) rfl ?_
          exact HG.out
        · have HF : Hid (∀ t : Nat, LookPost w base P V bk bl ba Fd bn Lk R g c nn cap capm (some ⟨bb, off, none⟩) b ll kind q k N ((Tr.node x r ta tb).vis kind q k h).1 (s + ((Tr.node x r ta tb).vis kind q k h).2) (.returned (.tuple #[])) (W7.drewN t)) := Lib.hid fun t => by
            rw [HLAW.out, if_neg hcc]
            dsimp only
            rw [show s + (1 + zn) = s + 1 + zn by omega]
            exact ⟨p9, c9, rfl, HL7.out.below (Drawn.below ⟨t, rfl⟩), HK7.out.trans (Keep.drawn ⟨t, rfl⟩)⟩
          have hcd : decide (d - R9 ≤ r) = false := decide_eq_false hcc
          clear hcc HLAW
          go_wp2_with fail
          go_quiet ((go_at_call 40; exact quiet_drawn (RC.out _)))
          go_wp2_with fail
          (try simp only [Exit.inBlock, Exit.then])
          refine bodyPost_ret (v := .tuple #[]) (by simp [results, Try.results41, go_sem]) rfl ?_
          exact HF.out _
end Go.Proofs.Ytlammenejgagdaa
