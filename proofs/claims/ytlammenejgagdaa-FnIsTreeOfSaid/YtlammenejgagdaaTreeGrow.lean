/-
  The walk of the reference's grow: the nodes of the tree of some items.
-/
import Derived.Test.YtlammenejgagdaaTreeSort
namespace Go.Proofs.Ytlammenejgagdaa
open Go.RowKit
set_option linter.unusedVariables false

theorem flatN_mid {nd nd' : Nd} {u : Value} (ns T : List Nd) (d : Nat) (hd : d < 4) (h : ndCells nd' = (ndCells nd).set d u) : (flatN (ns ++ nd :: T)).set (ns.length * 4 + d) u = flatN (ns ++ nd' :: T) := by
  rw [flatN_app, flatN_app, List.set_append_right _ _ (by rw [flatN_length]; omega), flatN_length, show ns.length * 4 + d - ns.length * 4 = d by omega]
  rw [show flatN (nd :: T) = ndCells nd ++ flatN T by simp [flatN], show flatN (nd' :: T) = ndCells nd' ++ flatN T by simp [flatN], List.set_append_left _ _ (by show d < 4; exact hd), h]
theorem half_tdiv (n : Nat) : Int.tdiv ((n : Int) + 1) 2 = ((hf n : Nat) : Int) := by
  unfold hf
  rw [Int.tdiv_eq_ediv_of_nonneg (by omega)]
  omega
/-- .. with its length by another name -/
def GrowPostN (w : World) (base n : Nat) (R : List Nd) (e : Ending) (w' : World) : Prop :=
  ∃ g cap, e = .returned (.slice (some ⟨g, 0, none⟩) n cap) ∧ w'.ownsRow base 46 4 (.slice (some ⟨g, 0, none⟩) n cap) n (flatN R) ∧ Keep base 46 (fun _ => False) w w'
def GrowPost (w : World) (base : Nat) (R : List Nd) (e : Ending) (w' : World) : Prop :=
  ∃ g cap, e = .returned (.slice (some ⟨g, 0, none⟩) R.length cap) ∧ w'.ownsRow base 46 4 (.slice (some ⟨g, 0, none⟩) R.length cap) R.length (flatN R) ∧ Keep base 46 (fun _ => False) w w'
theorem GrowPost.n {w w' : World} {base n : Nat} {R : List Nd} {e : Ending} (h : GrowPost w base R e w') (hn : R.length = n) : GrowPostN w base n R e w' := by
  subst hn; exact h
theorem growPost_mk {w w' : World} {base g c n : Nat} {R : List Nd} (ho : w'.ownsRow base 46 4 (.slice (some ⟨g, 0, none⟩) n c) n (flatN R)) (hk : Keep base 46 (fun _ => False) w w') : GrowPost w base R (.returned (.slice (some ⟨g, 0, none⟩) n c)) w' := by
  have hn : n = R.length := by have := ho.1; rw [flatN_length] at this; omega
  subst hn
  exact ⟨g, c, rfl, ho, hk⟩
theorem cells4_new (w : World) (x y z u : Value) (t : TypeId) : (w.alloc (.cells #[x, y, z, u] t)).cell? ⟨w.heap.size, 0, none⟩ = some x ∧ (w.alloc (.cells #[x, y, z, u] t)).cell? ⟨w.heap.size, 1, none⟩ = some y ∧ (w.alloc (.cells #[x, y, z, u] t)).cell? ⟨w.heap.size, 2, none⟩ = some z ∧ (w.alloc (.cells #[x, y, z, u] t)).cell? ⟨w.heap.size, 3, none⟩ = some u :=
  ⟨cell_new w _ t 0, cell_new w _ t 1, cell_new w _ t 2, cell_new w _ t 3⟩
/-- a tree's nodes: the top, those of Near, those of Far -/
theorem nds_far {kind : Int} {x : It} {xs : List It} {ns : List Nd} {k h : Nat} {r : Int} (hm : hf xs.length = h + 1) (hr : rad kind x xs = r) (hlt : h + 1 < xs.length) :
    ns ++ ⟨x.key, r, (k : Int) + 1, (k : Int) + 1 + ((h : Int) + 1)⟩ :: (tr kind ((byD kind x.pos xs).take (h + 1))).nds (k + 1) ++ (tr kind ((byD kind x.pos xs).drop (h + 1))).nds (k + 1 + (h + 1)) = ns ++ (tr kind (x :: xs)).nds k := by
  have hl := byD_length kind x.pos xs
  have h1 : ((byD kind x.pos xs).take (h + 1)).length = h + 1 := by rw [List.length_take]; omega
  have h2 : ((byD kind x.pos xs).drop (h + 1)).length ≠ 0 := by rw [List.length_drop]; omega
  rw [tr_cons, hm, hr]
  unfold rst
  show _ = ns ++ (⟨x.key, r, (tr kind ((byD kind x.pos xs).take (h + 1))).top (k + 1), (tr kind ((byD kind x.pos xs).drop (h + 1))).top (k + 1 + (tr kind ((byD kind x.pos xs).take (h + 1))).size)⟩ :: ((tr kind ((byD kind x.pos xs).take (h + 1))).nds (k + 1) ++ (tr kind ((byD kind x.pos xs).drop (h + 1))).nds (k + 1 + (tr kind ((byD kind x.pos xs).take (h + 1))).size)))
  rw [tr_size, tr_top, tr_top, h1, if_neg (by omega), if_neg h2]
  simp
theorem nds_near {kind : Int} {x : It} {xs : List It} {ns : List Nd} {k h : Nat} {r : Int} (hm : hf xs.length = h + 1) (hr : rad kind x xs = r) (hlt : ¬ h + 1 < xs.length) :
    ns ++ ⟨x.key, r, (k : Int) + 1, -1⟩ :: (tr kind ((byD kind x.pos xs).take (h + 1))).nds (k + 1) = ns ++ (tr kind (x :: xs)).nds k := by
  have hl := byD_length kind x.pos xs
  have hle := hf_le xs.length
  have h1 : ((byD kind x.pos xs).take (h + 1)).length = h + 1 := by rw [List.length_take]; omega
  have h2 : (byD kind x.pos xs).drop (h + 1) = [] := List.drop_eq_nil_of_le (by omega)
  rw [tr_cons, hm, hr]
  unfold rst
  rw [h2, tr_nil]
  show _ = ns ++ (⟨x.key, r, (tr kind ((byD kind x.pos xs).take (h + 1))).top (k + 1), -1⟩ :: ((tr kind ((byD kind x.pos xs).take (h + 1))).nds (k + 1) ++ []))
  rw [tr_top, h1, if_neg (by omega)]
  simp
/-- .. of a length that is known by another name -/
def ByDn (w : World) (base n : Nat) (R : List It) (e : Ending) (w' : World) : Prop :=
  ∃ g cap, e = .returned (.slice (some ⟨g, 0, none⟩) n cap) ∧ (ItemsB w' base (some ⟨g, 0, none⟩) R ∧ Cap n cap) ∧ Below w.heap.size w w'
theorem NewByD.n {w w' : World} {base n : Nat} {R : List It} {e : Ending} (h : NewByD w base R e w') (hn : R.length = n) (hl : n ≤ 1000) : ByDn w base n R e w' := by
  obtain ⟨g, cap, L, rfl, h1, h2, h3, h4, h5⟩ := h
  have hi := ItemsB.of_own h1 h3 (by omega)
  rw [h2] at hi
  subst hn
  exact ⟨g, cap, rfl, ⟨hi, h4⟩, h5⟩
/-- the top of a tree in its place -/
def TopB (w : World) (B : Nat) (x : It) (a : Option Addr) (c : Nat) : Prop := w.heap[B]? = some (.cells #[.int .i64 x.key, .slice a 4 c, .int .i64 x.tags] 39 (0, 0))
theorem TopB.keep {w w' : World} {B base c : Nat} {x : It} {a : Option Addr} {X : Nat → Prop} (h : TopB w B x a c) (k : Keep base 46 X w w') (hX : ¬ X B) : TopB w' B x a c := by
  unfold TopB at *
  rw [k.block B (Array.getElem?_eq_some_iff.1 h).1 hX (.inr fun c e => by rw [h] at e; simp only [Option.some.injEq, Obj.cells.injEq] at e; exact absurd e.2.1 (by decide)), h]
theorem ItV.keep {w w' : World} {base base' c : Nat} {x : It} {a : Option Addr} {t : TypeId} {X : Nat → Prop} (h : ItV w 0 base x a c) (k : Keep base' t X w w') (hX : ∀ k, X k → base' ≤ k) (hbb : base ≤ base') (hb : base' ≤ w.heap.size) : ItV w' 0 base x a c :=
  h.upd (lo' := base) (hi' := w.heap.size) ⟨k.os, k.tape, k.output, k.size, fun q hq hd => by
    rcases hd with hd | hd
    · exact (k.below hX hb).block q (by omega)
    · omega⟩ (.inl (Nat.le_refl _))
set_option maxRecDepth 4000 in
set_option maxHeartbeats 4000000 in
theorem grow_any (kind : Int) : ∀ (n : Nat) (ll : List It), ll.length ≤ n → ∀ (w : World) (base g c cap : Nat) (a : Option Addr) (ns : List Nd), w.ownsRow base 46 4 (.slice (some ⟨g, 0, none⟩) ns.length c) ns.length (flatN ns) → ItemsB w base a ll → Cap ll.length cap → base ≤ w.heap.size → (∀ x ∈ ll, vecB x.pos 4 = true) → ns.length + ll.length ≤ 1000 →
    Calls Try.prog 33 #[.slice (some ⟨g, 0, none⟩) ns.length c, .slice a ll.length cap, .int .i64 kind] w (GrowPost w base (ns ++ (tr kind ll).nds ns.length)) := by
  intro n
  induction n with
  | zero =>
    intro ll hl w base g c cap a ns ho hI hc hb hv hn
    have h0 : ll = [] := List.eq_nil_of_length_eq_zero (by omega)
    subst h0
    have HF : Hid (GrowPost w base (ns ++ (tr kind []).nds ns.length) (.returned (.slice (some ⟨g, 0, none⟩) ns.length c)) w) := Lib.hid (by
      rw [tr_nil, show Tr.nil.nds ns.length = [] from rfl, List.append_nil]
      exact growPost_mk ho (Keep.refl _ _ _ _))
    clear ho hI hc hv
    show Calls Try.prog 33 #[.slice (some ⟨g, 0, none⟩) ns.length c, .slice a 0 cap, .int .i64 kind] w _
    go_enter Try.func33, Try.ntmps33
    go_wp2_with fail
    go_ret
    exact HF.out
  | succ n ih =>
    intro ll hl w base g c cap a ns ho hI hc hb hv hn
    cases ll with
    | nil =>
      have HF : Hid (GrowPost w base (ns ++ (tr kind []).nds ns.length) (.returned (.slice (some ⟨g, 0, none⟩) ns.length c)) w) := Lib.hid (by
        rw [tr_nil, show Tr.nil.nds ns.length = [] from rfl, List.append_nil]
        exact growPost_mk ho (Keep.refl _ _ _ _))
      clear ho hI hc hv ih
      show Calls Try.prog 33 #[.slice (some ⟨g, 0, none⟩) ns.length c, .slice a 0 cap, .int .i64 kind] w _
      go_enter Try.func33, Try.ntmps33
      go_wp2_with fail
      go_ret
      exact HF.out
    | cons x xs =>
      have IH := Lib.hid ih
      obtain ⟨bb, off, rfl, hbb, aj, cj, c0, c1, c2, hx⟩ := hI.at_ (k := 0) (by simp)
      rw [show (x :: xs).getD 0 It.no = x from rfl] at c0 c1 c2 hx
      rw [Nat.zero_mul, Nat.add_zero] at c0 c1 c2
      have vx := hv x (List.mem_cons_self ..)
      have hx4 : x.pos.length = 4 := by have := vecB_len vx; omega
      rw [hx4] at c1
      have HD := Lib.hid (hI.drop 1)
      rw [show (x :: xs).drop 1 = xs from rfl, Nat.one_mul] at HD
      have HO := Lib.hid ho
      have HVX := Lib.hid vx
      have HIX := Lib.hid hx
      have HVS : Hid (∀ y ∈ xs, vecB y.pos 4 = true) := Lib.hid fun y hy => hv y (List.mem_cons_of_mem _ hy)
      have HTR := Lib.hid (tr_cons kind x xs)
      have hc1 := hc.1
      have hc2 := hc.2
      rw [List.length_cons] at hc1 hn ⊢
      obtain ⟨k, ek⟩ : ∃ k, ns.length = k := ⟨_, rfl⟩
      have HK := Lib.hid ek
      rw [ek] at HO hn ⊢
      obtain ⟨m, em⟩ : ∃ m, xs.length = m := ⟨_, rfl⟩
      have HM := Lib.hid em
      rw [em] at hc1 hn ⊢
      -- the top, in its place
      obtain ⟨t0, t1, -⟩ := cells3_new w (.int .i64 x.key) (.slice aj 4 cj) (.int .i64 x.tags) 39
      have HB1 := Lib.hid (below_alloc w (.cells #[.int .i64 x.key, .slice aj 4 cj, .int .i64 x.tags] 39))
      obtain ⟨W1, hW1⟩ : ∃ W1, w.alloc (.cells #[.int .i64 x.key, .slice aj 4 cj, .int .i64 x.tags] 39) = W1 := ⟨_, rfl⟩
      rw [hW1] at HB1 t0 t1
      have hs1 := HB1.out.size
      have hm1 : (1 : Int) ≤ (m : Int) + 1 := by omega
      obtain ⟨sl, hif⟩ : ∃ sl : Option Addr, (if cap = 1 then some (⟨bb, off, none⟩ : Addr) else some ⟨bb, off + 3, none⟩) = sl := ⟨_, rfl⟩
      replace HD : Hid (ItemsB w base sl xs) := Lib.hid (by
        rw [← hif]
        split
        · rw [show xs = [] from List.eq_nil_of_length_eq_zero (by have := HM.out; omega)]
          exact ItemsB.nil _ _ _
        · exact HD.out)
      have CB := Lib.hid fun w' (bl : Below W1.heap.size W1 w') => Calls.mono (byDist_any w' base 0 base sl aj (cap - 1) cj kind xs x.pos ((HD.out.below (HB1.out.trans (bl.mono hs1)))) ((HIX.out.below (HB1.out.trans (bl.mono hs1))).1) (by have := bl.size; omega) (fun j hj => HVS.out _ (by rw [List.getD_eq_getElem?_getD, List.getElem?_eq_getElem hj]; exact List.getElem_mem _)) HVX.out (by rw [HM.out]; omega)) fun _ _ h => NewByD.n h (show _ = m by rw [byD_length]; exact HM.out) (by omega)
      rw [HM.out, hx4] at CB
      have HX4 := Lib.hid hx4
      have HDR : Hid (Below W1.heap.size W1 W1.drew) := Lib.hid (Below.refl _ _).drew
      have HT := Lib.hid (And.intro t0 t1)
      have HC2 := Lib.hid c2
      clear ho hI hc hv ih vx hx hx4 ek em
      go_enter Try.func33, Try.ntmps33
      go_wp2_with fail
      have hTT : TopB W1 w.heap.size x aj cj := by rw [← hW1]; exact heap_alloc_new w _
      have HTT1 := Lib.hid hTT
      clear hTT hW1 c0 c1 c2
      go_region_law (go_simp; go_at_call 56; refine (CB.out _ HDR.out).mono ?_; rintro e w2 ⟨gr, cr, rfl, hor, hbr⟩; have HR2 := Lib.hid hor; have HX2 : Hid (Below w.heap.size w w2) := Lib.hid (HB1.out.trans ((HDR.out.trans hbr).mono hs1)); have u0 := cell_later (HDR.out.trans hbr) t0; have u1 := cell_later (HDR.out.trans hbr) t1; have HTT2 : Hid (TopB w2 w.heap.size x aj cj) := Lib.hid (((HDR.out.trans hbr).block w.heap.size (Array.getElem?_eq_some_iff.1 HTT1.out).1).trans HTT1.out); clear hor hbr)
      clear t0 t1 hif CB HT
      have hs2 := HX2.out.size
      have HN2 : Hid (Below w.heap.size w ((w2.alloc (.cells #[.int .i64 x.key, .int .i64 0, .int .i64 (-1), .int .i64 (-1)] 46)).alloc (.cells #[.int .i64 x.key, .int .i64 0, .int .i64 (-1), .int .i64 (-1)] 46))) := Lib.hid ((HX2.out.alloc hs2 _).alloc (by simp; omega) _)
      have HO2 := Lib.hid (owns_upd HO.out (Upd.of_below (lo := 0) (hi := 0) HN2.out) (by omega))
      have HNW : Hid (∀ j u, (ndCells ⟨x.key, 0, -1, -1⟩)[j]? = some u → ((w2.alloc (.cells #[.int .i64 x.key, .int .i64 0, .int .i64 (-1), .int .i64 (-1)] 46)).alloc (.cells #[.int .i64 x.key, .int .i64 0, .int .i64 (-1), .int .i64 (-1)] 46)).cell? ((⟨w2.heap.size + 1, 0, none⟩ : Addr).add j) = some u) := Lib.hid fun j u hj => by
        have e : (w2.alloc (.cells #[.int .i64 x.key, .int .i64 0, .int .i64 (-1), .int .i64 (-1)] 46)).heap.size = w2.heap.size + 1 := by simp
        rw [add_none, Nat.zero_add, ← e, cell_new]
        simpa [ndCells] using hj
      obtain ⟨H, eH⟩ : ∃ H, hf m = H := ⟨_, rfl⟩
      have hdv : Int.tdiv ((m : Int) + 1) 2 = (H : Int) := by rw [← eH]; exact half_tdiv m
      have hHm : H ≤ m := by rw [← eH]; exact hf_le m
      have hwH : IntKind.i64.wrap (H : Int) = (H : Int) := wrap_in (by omega)
      have HH := Lib.hid eH
      clear eH
      by_cases hH : H = 0
      · subst hH
        have hm0 : m = 0 := hf_zero.1 HH.out
        subst hm0
        go_wp2_with (at_builtin; refine appendN rfl _ _ 23 rfl base 46 Try.underlying23 infoNode rfl (by omega) (by omega) (.slice (some ⟨g, 0, none⟩) k c) k (flatN ns) rfl HO2.out ⟨w2.heap.size + 1, 0, none⟩ 1 1 (ndCells ⟨x.key, 0, -1, -1⟩) rfl rfl HNW.out (ndCells_one _) (by omega) (by simp; omega) ?_; intro v3 w3 hown3 hg3; obtain ⟨g3, c3, rfl, hg0, hgc, hgc2⟩ := owns_shape hown3 (by omega); have HO3 := Lib.hid hown3; have HG3 := Lib.hid hg3; have HK23 : Hid (Keep base 46 (fun _ => False) w2 w3) := Lib.hid ((Keep.of_below (((Below.refl _ w2).alloc (Nat.le_refl _) _).alloc (by simp) _)).trans (Keep.own HO2.out hg3)); have HK3 : Hid (Keep base 46 (fun _ => False) w w3) := Lib.hid ((Keep.of_below HX2.out).trans HK23.out); clear hown3 hg3)
        have HF : Hid (GrowPost w base (ns ++ (tr kind (x :: xs)).nds k) (.returned (.slice (some ⟨g3, 0, none⟩) (k + 1) c3)) w3) := Lib.hid (by
          have e : (tr kind (x :: xs)).nds k = [⟨x.key, 0, -1, -1⟩] := by
            have hx0 : xs = [] := List.eq_nil_of_length_eq_zero HM.out
            subst hx0
            rfl
          rw [e]
          refine growPost_mk ?_ HK3.out
          rw [flatN_app, flatN_one]
          exact HO3.out)
        go_wp2_with fail
        go_ret
        exact HF.out
      · obtain ⟨h, rfl⟩ : ∃ h, H = h + 1 := ⟨H - 1, by omega⟩
        clear hH
        have hH0 : (0 : Int) < (h : Int) + 1 := by omega
        go_wp2_with (at_builtin; refine appendN rfl _ _ 23 rfl base 46 Try.underlying23 infoNode rfl (by omega) (by omega) (.slice (some ⟨g, 0, none⟩) k c) k (flatN ns) rfl HO2.out ⟨w2.heap.size + 1, 0, none⟩ 1 1 (ndCells ⟨x.key, 0, -1, -1⟩) rfl rfl HNW.out (ndCells_one _) (by omega) (by simp; omega) ?_; intro v3 w3 hown3 hg3; obtain ⟨g3, c3, rfl, hg0, hgc, hgc2⟩ := owns_shape hown3 (by omega); have HO3 := Lib.hid hown3; have HG3 := Lib.hid hg3; have HK23 : Hid (Keep base 46 (fun _ => False) w2 w3) := Lib.hid ((Keep.of_below (((Below.refl _ w2).alloc (Nat.le_refl _) _).alloc (by simp) _)).trans (Keep.own HO2.out hg3)); have HK3 : Hid (Keep base 46 (fun _ => False) w w3) := Lib.hid ((Keep.of_below HX2.out).trans HK23.out); clear hown3 hg3)
        have HT3 := Lib.hid (HTT2.out.keep HK23.out (fun e => e))
        have HI3 := Lib.hid (HR2.out.1.keep HK23.out (by decide) (fun _ e => e.elim) (by omega))
        have hs3 := HK3.out.size
        have hyl : h < (byD kind x.pos xs).length := by rw [byD_length, HM.out]; omega
        obtain ⟨bg, og, hag, _, ay, cy, y0, y1, y2, hy⟩ := HI3.out.at_ hyl
        simp only [Option.some.injEq, Addr.mk.injEq] at hag
        obtain ⟨rfl, rfl, _⟩ := hag
        rw [Nat.zero_add] at y0 y1 y2
        have vy : vecB ((byD kind x.pos xs).getD h It.no).pos 4 = true := HVS.out _ (byD_mem.1 (by rw [List.getD_eq_getElem?_getD, List.getElem?_eq_getElem hyl]; exact List.getElem_mem _))
        have HRAD : Hid (rad kind x xs = dst kind ((byD kind x.pos xs).getD h It.no).pos x.pos 4) := Lib.hid (by unfold rad rst; rw [HM.out, HH.out, if_pos (by omega), Nat.add_sub_cancel])
        obtain ⟨y, ey⟩ : ∃ y, (byD kind x.pos xs).getD h It.no = y := ⟨_, rfl⟩
        rw [ey] at y0 y1 y2 hy vy HRAD
        have hy4 : y.pos.length = 4 := by have := vecB_len vy; omega
        have D := Lib.hid (specDist w3.drew _ _ _ _ _ _ cy cj y.pos x.pos kind (hy.1.drawn (drawn_drew w3)) ((HIX.out.keep HK3.out (fun _ e => e.elim) (Nat.le_refl _) hb).1.drawn (drawn_drew w3)) (vecB_coords vy) (vecB_coords HVX.out) (by have := HX4.out; omega) (by have := HX4.out; omega))
        rw [hy4, HX4.out] at D
        rw [hy4] at y1
        obtain ⟨r, er⟩ : ∃ r, dst kind y.pos x.pos 4 = r := ⟨_, rfl⟩
        rw [er] at D HRAD
        have HO3' : Hid (w3.ownsRow base 46 4 (.slice (some ⟨g3, 0, none⟩) (k + 1) c3) (k + 1) (flatN (ns ++ [⟨x.key, 0, -1, -1⟩]))) := Lib.hid (by rw [flatN_app, flatN_one]; exact HO3.out)
        have n1 := HO3'.out.cellAt (k * 4 + 1) (by omega)
        have n2 := HO3'.out.cellAt (k * 4 + 2) (by omega)
        have hnl : k < (ns ++ [(⟨x.key, 0, -1, -1⟩ : Nd)]).length := by rw [List.length_append, HK.out]; simp
        have hnd : (ns ++ [(⟨x.key, 0, -1, -1⟩ : Nd)]).getD k Nd.no = ⟨x.key, 0, -1, -1⟩ := by rw [List.getD_eq_getElem?_getD, List.getElem?_append_right (by rw [HK.out]; omega), HK.out]; simp
        rw [flatN_cell 1 (by omega) hnl, hnd] at n1
        rw [flatN_cell 2 (by omega) hnl, hnd] at n2
        have HN12 : Hid (w3.cell? ⟨g3, k * 4 + 1, none⟩ = some (.int .i64 0) ∧ w3.cell? ⟨g3, k * 4 + 2, none⟩ = some (.int .i64 (-1))) := Lib.hid ⟨n1, n2⟩
        have t0 := cells3_0 HT3.out
        have t1 := cells3_1 HT3.out
        have hhm : (h : Int) < (m : Int) := by omega
        have hwh : IntKind.i64.wrap (h : Int) = (h : Int) := wrap_in (by omega)
        have hkk : (k : Int) < (k : Int) + 1 := by omega
        clear n1 n2 hnl hnd y0 y2 hy vy hyl ey hy4 er u0 u1
        go_region_law (go_simp; go_at_call 57; refine D.out.mono ?_; rintro e w4 ⟨rfl, hd4⟩; have HD4 : Hid (Drawn w3 w4) := Lib.hid ((drawn_drew w3).trans hd4); have n1 := HD4.out.cell HN12.out.1; have n2 := HD4.out.cell HN12.out.2; have nf1 := (owns_upd HO3'.out (HD4.out.upd (lo := 0) (hi := 0)) (by omega)).frozenAt (k * 4 + 1); have nf2 := (owns_upd HO3'.out (HD4.out.upd (lo := 0) (hi := 0)) (by omega)).frozenAt (k * 4 + 2); clear hd4)
        all_goals (
          have HO4 := owns_upd HO3'.out (HD4.out.upd (lo := 0) (hi := 0)) (by omega)
          have HO5 := (HO4.stored (k * 4 + 1) (.int .i64 r)).1
          have HO6 := (HO5.stored (k * 4 + 2) (.int .i64 ((k : Int) + 1))).1
          have m1 := flatN_mid (nd := ⟨x.key, 0, -1, -1⟩) (nd' := ⟨x.key, r, -1, -1⟩) (u := .int .i64 r) ns [] 1 (by omega) rfl
          have m2 := flatN_mid (nd := ⟨x.key, r, -1, -1⟩) (nd' := ⟨x.key, r, (k : Int) + 1, -1⟩) (u := .int .i64 ((k : Int) + 1)) ns [] 2 (by omega) rfl
          rw [HK.out] at m1 m2
          rw [m1, m2] at HO6
          have HU6 := (upd_set w4 g3 (k * 4 + 1) (.int .i64 r)).trans (upd_set _ g3 (k * 4 + 2) (.int .i64 ((k : Int) + 1)))
          have HK36 : Keep base 46 (fun _ => False) w3 _ := (Keep.drawn HD4.out).trans (Keep.upd HO4 HU6)
          have HI6 := (HI3.out.keep HK36 (by decide) (fun _ e => e.elim) (by omega)).take (h + 1)
          have hc6 := HR2.out.2.1
          have hc7 := HR2.out.2.2
          have hs6 := HK36.size
          have hlh : ((byD kind x.pos xs).take (h + 1)).length = h + 1 := by rw [List.length_take, byD_length, HM.out]; omega
          have hlk : (ns ++ [(⟨x.key, r, (k : Int) + 1, -1⟩ : Nd)]).length = k + 1 := by rw [List.length_append, HK.out]; simp
          have IN := IH.out ((byD kind x.pos xs).take (h + 1)) (by rw [hlh]; have : xs.length + 1 ≤ n + 1 := hl; have := HM.out; omega) _ base g3 c3 cr (some ⟨gr, 0, none⟩) (ns ++ [⟨x.key, r, (k : Int) + 1, -1⟩]) (by rw [hlk]; exact HO6) HI6 ⟨by rw [hlh]; omega, hc7⟩ (by omega) (fun z hz => HVS.out z (byD_mem.1 (List.mem_of_mem_take hz))) (by rw [hlk, hlh]; omega)
          rw [hlk, hlh] at IN
          have hLt : (ns ++ [(⟨x.key, r, (k : Int) + 1, -1⟩ : Nd)] ++ (tr kind ((byD kind x.pos xs).take (h + 1))).nds (k + 1)).length = k + 1 + (h + 1) := by rw [List.length_append, hlk, Tr.nds_length, tr_size, hlh]
          have IM := Lib.hid (IN.mono fun _ _ q => q.n hLt)
          have HKW6 := Lib.hid (HK3.out.trans HK36)
          have HK36' := Lib.hid HK36
          have hHc : (h : Int) + 1 ≤ (cr : Int) := by omega
          clear HO4 HO5 HO6 m1 m2 HU6 HK36 HI6 hs6 hlh hlk IN hLt
          go_wp2_with fail
          refine IM.out.mono ?_
          rintro e w7 ⟨g7, c7, rfl, ho7, hk7⟩
          have HK7 := Lib.hid (HKW6.out.trans hk7)
          have HK37 := Lib.hid (HK36'.out.trans hk7)
          have hs7 := HK7.out.size
          obtain ⟨hg7, hc7a, hc7b⟩ : base ≤ g7 ∧ k + 1 + (h + 1) ≤ c7 ∧ c7 ≤ 9223372036854775807 := ⟨(ho7.lt g7 rfl).1, (owns_cap ho7).1, (owns_cap ho7).2⟩
          by_cases hfar : h + 1 < m
          · have HEQ := Lib.hid (nds_far (kind := kind) (x := x) (xs := xs) (ns := ns) (k := k) (h := h) (r := r) (by rw [HM.out]; exact HH.out) HRAD.out (by rw [HM.out]; exact hfar))
            have hTl : ((tr kind ((byD kind x.pos xs).take (h + 1))).nds (k + 1)).length = h + 1 := by rw [Tr.nds_length, tr_size, List.length_take, byD_length, HM.out]; omega
            obtain ⟨T, eT⟩ : ∃ T, (tr kind ((byD kind x.pos xs).take (h + 1))).nds (k + 1) = T := ⟨_, rfl⟩
            rw [eT] at ho7 HEQ hTl
            rw [show ns ++ [(⟨x.key, r, (k : Int) + 1, -1⟩ : Nd)] ++ T = ns ++ ⟨x.key, r, (k : Int) + 1, -1⟩ :: T by simp] at ho7
            have n3 := ho7.cellAt (k * 4 + 3) (by omega)
            have hnl : k < (ns ++ (⟨x.key, r, (k : Int) + 1, -1⟩ : Nd) :: T).length := by rw [List.length_append, HK.out]; simp
            have hnd : (ns ++ (⟨x.key, r, (k : Int) + 1, -1⟩ : Nd) :: T).getD k Nd.no = ⟨x.key, r, (k : Int) + 1, -1⟩ := by rw [List.getD_eq_getElem?_getD, List.getElem?_append_right (by rw [HK.out]; omega), HK.out]; simp
            rw [flatN_cell 3 (by omega) hnl, hnd] at n3
            replace n3 : w7.cell? ⟨g7, k * 4 + 3, none⟩ = some (.int .i64 (-1)) := n3
            have nf3 := ho7.frozenAt (k * 4 + 3)
            have ho8 := (ho7.stored (k * 4 + 3) (.int .i64 ((k : Int) + 1 + ((h : Int) + 1)))).1
            have m3 := flatN_mid (nd := ⟨x.key, r, (k : Int) + 1, -1⟩) (nd' := ⟨x.key, r, (k : Int) + 1, (k : Int) + 1 + ((h : Int) + 1)⟩) (u := .int .i64 ((k : Int) + 1 + ((h : Int) + 1))) ns T 3 (by omega) rfl
            rw [HK.out] at m3
            rw [m3] at ho8
            have hk78 : Keep base 46 (fun _ => False) w7 _ := Keep.upd ho7 (upd_set w7 g7 (k * 4 + 3) (.int .i64 ((k : Int) + 1 + ((h : Int) + 1))))
            have HI8 := (HI3.out.keep (HK37.out.trans hk78) (by decide) (fun _ e => e.elim) (by omega)).drop (h + 1)
            rw [Nat.zero_add] at HI8
            have hc6 := HR2.out.2.1
            have hc7' := HR2.out.2.2
            have hs8 := hk78.size
            have hlh : ((byD kind x.pos xs).drop (h + 1)).length = m - (h + 1) := by rw [List.length_drop, byD_length, HM.out]
            have hlk : (ns ++ (⟨x.key, r, (k : Int) + 1, (k : Int) + 1 + ((h : Int) + 1)⟩ : Nd) :: T).length = k + 1 + (h + 1) := by rw [List.length_append, HK.out, List.length_cons, hTl]; omega
            have IN := IH.out ((byD kind x.pos xs).drop (h + 1)) (by rw [hlh]; have : xs.length + 1 ≤ n + 1 := hl; have := HM.out; omega) _ base g7 c7 (cr - (h + 1)) (some ⟨gr, (h + 1) * 3, none⟩) (ns ++ ⟨x.key, r, (k : Int) + 1, (k : Int) + 1 + ((h : Int) + 1)⟩ :: T) (by rw [hlk]; exact ho8) HI8 ⟨by rw [hlh]; omega, by omega⟩ (by omega) (fun z hz => HVS.out z (byD_mem.1 (List.mem_of_mem_drop hz))) (by rw [hlk, hlh]; omega)
            rw [hlk, hlh, HEQ.out] at IN
            have IM := Lib.hid IN
            have HK8 := Lib.hid (HK7.out.trans hk78)
            have hfi : (h : Int) + 1 < (m : Int) := by omega
            have hfj : (h : Int) + 1 ≤ (m : Int) := by omega
            have hcrH : ¬ cr = h + 1 := by omega
            have hkg : (k : Int) < (k : Int) + 1 + ((h : Int) + 1) := by omega
            clear ho7 hk7 hnl hnd ho8 m3 hk78 HI8 hs8 hlh hlk IN hTl eT
            go_wp2_with fail
            obtain ⟨R, eR⟩ : ∃ R, ns ++ (tr kind (x :: xs)).nds k = R := ⟨_, rfl⟩
            rw [eR] at IM
            have HER := Lib.hid eR
            clear eR
            refine IM.out.mono ?_
            rintro e w9 ⟨g9, c9, rfl, ho9, hk9⟩
            have HF : Hid (GrowPost w base R (.returned (.slice (some ⟨g9, 0, none⟩) R.length c9)) w9) := Lib.hid (growPost_mk ho9 (HK8.out.trans hk9))
            clear ho9 hk9
            go_wp2_with fail
            go_ret
            rw [HER.out]
            exact HF.out
          · have HEQ := Lib.hid (nds_near (kind := kind) (x := x) (xs := xs) (ns := ns) (k := k) (h := h) (r := r) (by rw [HM.out]; exact HH.out) HRAD.out (by rw [HM.out]; exact hfar))
            have HF : Hid (GrowPost w base (ns ++ (tr kind (x :: xs)).nds k) (.returned (.slice (some ⟨g7, 0, none⟩) (k + 1 + (h + 1)) c7)) w7) := Lib.hid (by
              rw [← HEQ.out]
              refine growPost_mk ?_ HK7.out
              rw [show ns ++ [(⟨x.key, r, (k : Int) + 1, -1⟩ : Nd)] ++ (tr kind ((byD kind x.pos xs).take (h + 1))).nds (k + 1) = ns ++ ⟨x.key, r, (k : Int) + 1, -1⟩ :: (tr kind ((byD kind x.pos xs).take (h + 1))).nds (k + 1) by simp] at ho7
              exact ho7)
            have hfi : ¬ (h : Int) + 1 < (m : Int) := by omega
            clear ho7 hk7
            go_wp2_with fail
            go_ret
            exact HF.out)
end Go.Proofs.Ytlammenejgagdaa
