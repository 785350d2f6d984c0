/-
  Drawn books of codes: only how they lie in memory, and how many rows they have.
-/
import Derived.Test.YtllahaebfhaobaaDrawVec
import Derived.Test.YtllahaebfhaobaaBookWalks
import Derived.Deep.RegionWith
import Derived.Handy
import Derived.Deep.Cut
import Derived.Deep.RegionHeld3
namespace Go.Proofs.Ytllahaebfhaobaa
open Go.RowKit
set_option linter.unusedVariables false

theorem intBlk_lit (w : World) (l : List Int) : IntBlk (w.alloc (.cells (l.map (Value.int .i64)).toArray 3)) (some ⟨w.heap.size, 0, none⟩) l := fun hne b off ha => by
  simp only [Option.some.injEq, Addr.mk.injEq] at ha
  obtain ⟨rfl, _, _⟩ := ha
  exact ⟨_, heap_alloc_new w _⟩

set_option maxHeartbeats 1000000 in
theorem someHalves_any (w : World) (B c : Nat) (hr : Reader w B c) (hc : c ≤ 1099511610000) :
    Calls Try.prog 65 #[.pointer (some ⟨B, 0, none⟩)] w (GotLists w B (c + 24) fun ll => ll.length = 4) := by
  have hB := hr.lt
  go_enter Try.func65, Try.ntmps65
  go_wp2
  go_loopw [3, 4] (fun v i wr => ∃ (k : Nat) (ll : List (List Int)), k ≤ 4 ∧ i = .int .i64 (k : Int) ∧ Hid (ll.length = k) ∧ Hid (OwnLists wr w.heap.size wr.heap.size v ll) ∧ Reader wr B (c + 6 * k) ∧ Hid (Upd B (B + 1) w wr) ∧ w.heap.size ≤ wr.heap.size) (fun _ i _ => 4 - (intOf i).toNat)
  case atStart => exact ⟨0, [], by omega, rfl, rfl, ⟨[], owns_empty w _ _ _ (Nat.le_refl _), rws_nil _ _ _⟩, hr.keep ((Below.refl _ _).alloc hB _), Upd.alloc _ _, by simp⟩
  case round =>
    obtain ⟨k, ll, hk, rfl, hl, HO, hr1, HU, hs⟩ := hrel
    by_cases hlt : k < 4
    · obtain ⟨vs, hown, hrw⟩ := HO.out
      have HW := Lib.hid hown
      have HRW := Lib.hid hrw
      clear HO hown hrw
      go_wp2_with fail
      refine (someCoord_any _ _ _ hr1 (by omega)).mono ?_
      rintro e w2 ⟨x, rfl, hx, hr2, hu2⟩
      have HU2 := Lib.hid hu2
      have hs2 := hu2.size
      clear hu2
      go_wp2_with fail
      refine (someCoord_any _ _ _ hr2 (by omega)).mono ?_
      rintro e w3 ⟨y, rfl, hy, hr3, hu3⟩
      have HU3 := Lib.hid (HU2.out.trans hu3)
      have hs3 := hu3.size
      have HR3 := Lib.hid hr3
      clear hu3 HU2
      go_wp2_with (at_builtin; go_loud (refine append1 rfl _ _ 23 rfl w.heap.size 27 Try.underlying23 infoInts rfl (by omega) (by omega) _ ll.length vs rfl ((owns_upd HW.out HU3.out (by omega)).alloc _) [.slice (some ⟨w3.heap.size, 0, none⟩) 2 2] ?hx rfl (by intro u hu; simp at hu; subst hu; rfl) (by have := hl.out; omega) (by simp; omega) ?_; (case hx => simp [Act.eval]); intro v' w4 hown4 hg4; have HO4 := Lib.hid hown4; have HG4 := Lib.hid hg4; clear hown4 hg4))
      have hg4s := HG4.out.size
      have HI := ints_lit w3 [x, y] 3 (fun z hz => by simp at hz; omega) (by simp)
      have HIB := intBlk_lit w3 [x, y]
      have R0 := ((HRW.out.upd HU3.out (by omega)).upd (Upd.alloc (lo := 0) (hi := 0) w3 (.cells ([x, y].map (Value.int .i64)).toArray 3)) (by omega)).wide (Nat.le_refl _) (show wr.heap.size ≤ w3.heap.size + 1 by omega)
      have R1 := R0.snoc (cap := 2) (HI.wide (by omega) (Nat.le_refl _)) HIB
      have R2 := (R1.grown ((owns_upd HW.out HU3.out (by omega)).alloc _) (by decide) HG4.out).wide (Nat.le_refl _) (show w3.heap.size + 1 ≤ w4.heap.size by simpa using hg4s)
      go_roundw
      case rel =>
        exact ⟨k + 1, ll ++ [[x, y]], by omega, by go_num, by show _ = _; simp [hl.out], ⟨vs ++ [.slice (some ⟨w3.heap.size, 0, none⟩) 2 2], by simpa using HO4.out, R2⟩, ((HR3.out.keep ((Below.refl _ _).alloc (by have := HR3.out.lt; omega) _)).grown HG4.out (fun j hj => by have := owns_block HW.out j hj; omega)).mono (by omega), ((HU.out.trans HU3.out).trans (Upd.alloc _ _)).grow HG4.out (owns_block HW.out), by simp at hg4s; omega⟩
      case measure => simp [intOf]; omega
    · go_wp2
      go_ret
      obtain ⟨vs, h1, h2⟩ := HO.out
      obtain ⟨a, cap, rfl, _⟩ := owns_form h1
      exact ⟨a, cap, ll, rfl, ⟨vs, h1, h2⟩, by have := hl.out; show ll.length = 4; omega, hr1.mono (by omega), HU.out⟩

def BookPost (w : World) (B c : Nat) (e : Ending) (w' : World) : Prop :=
  ∃ (a b : Option Addr) (cap cap' : Nat) (L R : List (List Int)), e = .returned (.agg #[.slice a L.length cap, .slice b R.length cap']) ∧ (Sides w' w.heap.size w'.heap.size a b L R ∧ Cap L.length cap ∧ Cap R.length cap') ∧ Reader w' B c ∧ Upd B (B + 1) w w'

theorem OwnLists.read {w w' : World} {lo lo' hi' : Nat} {a : Option Addr} {cap n : Nat} {ll : List (List Int)} (h : OwnLists w lo w.heap.size (.slice a n cap) ll) (u : Upd lo' hi' w w') (hd : hi' ≤ lo) (hl : ll.length ≤ 1000) : Lists w' lo w'.heap.size a ll ∧ Cap ll.length cap := by
  obtain ⟨vs, h1, h2⟩ := h
  have h3 := u.size
  have h4 := owns_upd h1 u (by omega)
  obtain ⟨a', cap', hv, hx⟩ := lists_of_owns ⟨vs, h4, (h2.upd u (by omega)).wide (Nat.le_refl _) h3⟩ (by omega) (Nat.le_refl _)
  simp only [Value.slice.injEq] at hv
  obtain ⟨rfl, hn, rfl⟩ := hv
  subst hn
  exact ⟨hx, owns_cap h4⟩

/-- a struct of two cells, stored into a variable of the call's own and read back -/
theorem store2 {w : World} {B : Nat} {x0 y0 : Value} {t : TypeId} (h : w.heap[B]? = some (.cells #[x0, y0] t (0, 0))) (x y : Value) :
    (w.setCell ⟨B, 0, none⟩ x).cell? ⟨B, 0, none⟩ = some x ∧ ((w.setCell ⟨B, 0, none⟩ x).setCell ⟨B, 1, none⟩ y).cell? ⟨B, 1, none⟩ = some y := by
  have h1 : (w.setCell ⟨B, 0, none⟩ x).heap[B]? = some (.cells #[x, y0] t (0, 0)) := by simp [World.setCell, Array.getElem?_modify, h]
  have h2 : ((w.setCell ⟨B, 0, none⟩ x).setCell ⟨B, 1, none⟩ y).heap[B]? = some (.cells #[x, y] t (0, 0)) := by
    generalize w.setCell ⟨B, 0, none⟩ x = w' at h1 ⊢
    simp [World.setCell, Array.getElem?_modify, h1]
  exact ⟨cells2_0 h1, cells2_1 h2⟩
theorem Upd.drew1 {lo hi : Nat} (w : World) : Upd lo hi w w.drew := Upd.drewN w 1
theorem book_end {w w3 : World} {B c : Nat} {a b : Option Addr} {cap cap' : Nat} {L R : List (List Int)} (hB : B < w.heap.size) (hr : Reader w3 B c) (hu : Upd B (B + 1) w w3)
    (hl : Lists w3 (w.heap.size + 1) w3.heap.size a L ∧ Cap L.length cap) (hR : Lists w3 (w.heap.size + 1) w3.heap.size b R ∧ Cap R.length cap') (x y : Value) :
    BookPost w B c (.returned (.agg #[.slice a L.length cap, .slice b R.length cap'])) ((w3.setCell ⟨w.heap.size, 0, none⟩ x).setCell ⟨w.heap.size, 1, none⟩ y) := by
  have u : Upd w.heap.size (w.heap.size + 1) w3 ((w3.setCell ⟨w.heap.size, 0, none⟩ x).setCell ⟨w.heap.size, 1, none⟩ y) := (Upd.setCell w3 ⟨w.heap.size, 0, none⟩ x (Nat.le_refl _) (Nat.lt_succ_self _)).trans (Upd.setCell _ ⟨w.heap.size, 1, none⟩ y (Nat.le_refl _) (Nat.lt_succ_self _))
  have hs := u.size
  refine ⟨a, b, cap, cap', L, R, rfl, ⟨⟨(hl.1.upd u (by omega)).wide (by omega) hs, (hR.1.upd u (by omega)).wide (by omega) hs⟩, hl.2, hR.2⟩, hr.upd u (by omega), ?_⟩
  exact ⟨u.os.trans hu.os, u.tape.trans hu.tape, u.output.trans hu.output, Nat.le_trans hu.size hs, fun k hk hd => by rw [u.block k (by have := hu.size; omega) (by omega)]; exact hu.block k hk hd⟩

set_option maxHeartbeats 2000000 in
theorem anyBook_any (w : World) (B c : Nat) (hr : Reader w B c) (hc : c ≤ 1099511600000) :
    Calls Try.prog 34 #[.pointer (some ⟨B, 0, none⟩)] w (BookPost w B (c + 60)) := by
  have hB := hr.lt
  go_enter Try.func34, Try.ntmps34
  go_wp2_with fail
  refine (someHalves_any _ B c (hr.keep ((Below.refl _ _).alloc hB _)) (by omega)).mono ?_
  rintro e w1 ⟨a1, cap1, L, rfl, ho1, hl1, hr1, hu1⟩
  have hs1 := hu1.size
  simp only [World.size_alloc] at hs1
  have HO1 := Lib.hid ho1
  have HU1 := Lib.hid hu1
  have HL := Lib.hid (show L.length = 4 from hl1)
  clear ho1 hu1 hl1
  go_wp2_with fail
  refine (someHalves_any _ B _ hr1 (by omega)).mono ?_
  rintro e w2 ⟨a2, cap2, R, rfl, ho2, hl2, hr2, hu2⟩
  have hs2 := hu2.size
  have HO2 := Lib.hid ho2
  have HU2 := Lib.hid hu2
  have HR := Lib.hid (show R.length = 4 from hl2)
  clear ho2 hu2 hl2
  go_wp2_with fail
  have hu2' := HU2.out
  refine (pick_any _ _ _ _ (hr2.keep ((Below.refl _ _).alloc hr2.lt _)) (by omega) (by omega) (by omega)).mono ?_
  rintro e w3 ⟨p, rfl, p0, p1, hr3, hu3, hs3⟩
  have hs3' := hu3.size
  simp only [World.size_alloc] at hs3 hs3'
  have HZ : Hid (w3.heap[w.heap.size]? = some (.cells #[.slice none 0 0, .slice none 0 0] 25 (0, 0))) := by
    show _ = _
    rw [hu3.block _ (by simp; omega) (by omega), Below.heap_alloc _ _ _ (by omega), hu2'.block _ (by omega) (by omega), HU1.out.block _ (by simp) (by omega)]
    exact heap_alloc_new w _
  have HT : Hid (w3.heap[w2.heap.size]? = some (.cells #[.slice a1 L.length cap1, .slice a2 R.length cap2] 25 (0, 0))) := by
    show _ = _
    rw [hu3.block _ (by simp) (by have := hr2.lt; omega)]
    exact heap_alloc_new w2 _
  have HU3 : Hid (Upd B (B + 1) w w3) := Lib.hid ((((Upd.alloc w _).trans HU1.out).trans hu2').trans ((Upd.alloc w2 _).trans hu3))
  have HL3 : Hid (Lists w3 (w.heap.size + 1) w1.heap.size a1 L ∧ Cap L.length cap1) := by
    have h := HO1.out.read (Upd.refl B (B + 1) w1) (by simp; omega) (by have := HL.out; omega)
    rw [World.size_alloc] at h
    exact ⟨h.1.upd (hu2'.trans ((Upd.alloc w2 _).trans hu3)) (by omega), h.2⟩
  have HR2 : Hid (Lists w2 w1.heap.size w2.heap.size a2 R ∧ Cap R.length cap2) := Lib.hid (HO2.out.read (Upd.refl B (B + 1) w2) (by omega) (by have := HR.out; omega))
  have HR3 : Hid (Lists w3 w1.heap.size w2.heap.size a2 R ∧ Cap R.length cap2) := Lib.hid ⟨HR2.out.1.upd ((Upd.alloc w2 _).trans hu3) (by omega), HR2.out.2⟩
  have z0 := cells2_0 HZ.out
  have z1 := cells2_1 HZ.out
  have zf := cells2_f HZ.out
  have t0 := cells2_0 HT.out
  have t1 := cells2_1 HT.out
  have tf := cells2_f HT.out
  have HU23 : Hid (Upd B (B + 1) w2 w3) := Lib.hid ((Upd.alloc w2 _).trans hu3)
  clear hu2' hu3 hs3
  by_cases k0 : p = 0
  · subst k0
    obtain ⟨vs, h1, _⟩ := HO1.out
    obtain ⟨g, gcap, hv, _, hg1, hg2⟩ := owns_shape h1 (by have := HL.out; omega)
    simp only [Value.slice.injEq] at hv
    obtain ⟨rfl, _, rfl⟩ := hv
    clear h1
    have l1 : (1 : Int) ≤ L.length := by have := HL.out; omega
    have l2 : 1 ≤ L.length := by omega
    have l3 : 1 < cap1 := by have := HL.out; omega
    go_wp2_with fail
    have u : Upd w2.heap.size (w2.heap.size + 1) w3 (w3.setCell ⟨w2.heap.size, 0, none⟩ (.slice (some ⟨g, 1, none⟩) (L.length - 1) (cap1 - 1))) := Upd.setCell w3 _ _ (Nat.le_refl _) (Nat.lt_succ_self _)
    have hz := (u.block w.heap.size (by omega) (by omega)).trans HZ.out
    obtain ⟨c0, c1⟩ := store2 hz (.slice (some ⟨g, 1, none⟩) (L.length - 1) (cap1 - 1)) (.slice a2 R.length cap2)
    (try simp only [Exit.inBlock, Exit.then])
    refine bodyPost_ret (v := .agg #[.slice (some ⟨g, 1, none⟩) (L.length - 1) (cap1 - 1), .slice a2 R.length cap2]) (by simp [results, Try.results34, go_sem, c0, c1]) rfl ?_
    have hll : L.length - 1 = (L.drop 1).length := by simp
    have ho := HL3.out.1.drop 1
    rw [hll] at u ⊢
    have hs := u.size
    refine book_end hB ((hr3.upd u (by omega)).mono (by omega)) ?_ ⟨(ho.upd u (by omega)).wide (Nat.le_refl _) (by omega), by simp; omega, by omega⟩ ⟨(HR3.out.1.upd u (by omega)).wide (by omega) (by omega), HR3.out.2⟩ _ _
    have hu3 := HU3.out
    exact ⟨u.os.trans hu3.os, u.tape.trans hu3.tape, u.output.trans hu3.output, Nat.le_trans hu3.size hs, fun k hk hd => by rw [u.block k (by omega) (by omega)]; exact hu3.block k hk hd⟩
  · by_cases k1 : p = 1
    · subst k1
      obtain ⟨vs, h1, h2⟩ := HO2.out
      obtain ⟨g, gcap, hv, hg0, hg1, hg2⟩ := owns_shape h1 (by have := HR.out; omega)
      simp only [Value.slice.injEq] at hv
      obtain ⟨rfl, _, rfl⟩ := hv
      have HOW := Lib.hid (owns_upd h1 HU23.out (by omega))
      have HRW := Lib.hid (h2.upd HU23.out (by omega))
      have hgT : g < w2.heap.size := by obtain ⟨_, hh⟩ := h1.lt g rfl; exact hh
      clear h1 h2
      have l1 : (R.length : Int) = 4 := by have := HR.out; omega
      have RD := Lib.hid hr3
      have hBT := hr2.lt
      have HT0 := Lib.hid t0
      clear z0 z1 zf t0 tf
      go_upto_region 6 with fail
      go_region_held3 (fun w' => w'.cell? ⟨w2.heap.size, 1, none⟩ = some (.slice (some ⟨g, 0, none⟩) R.length cap2))
        (first | go_keep | with_reducible exact HU4.out.cell t1 (by have := RD.out.lt; show _ < B ∨ B + 1 ≤ w2.heap.size; omega) | with_reducible exact HU5.out.cell t1 (by have := RD.out.lt; show _ < B ∨ B + 1 ≤ w2.heap.size; omega) | with_reducible exact (Upd.setCell (lo := g) (hi := g + 1) w5 ⟨g, k, none⟩ _ (Nat.le_refl _) (Nat.lt_succ_self _)).cell (HU5.out.cell t1 (by show _ < B ∨ B + 1 ≤ w2.heap.size; omega)) (by show w2.heap.size < g ∨ g + 1 ≤ w2.heap.size; omega))
        (first
          | (go_at_call 66; have HRP : Reader w3.drew B (c + 24 + 24 + 1) := RD.out.upd (lo := 0) (hi := 0) (Upd.drew1 w3) (by omega); (with_reducible refine Calls.mono (pick_any _ _ _ 4 HRP ?hc ?hd ?he) ?_); (case hc => omega); (case hd => omega); (case he => omega); rintro e w4 ⟨m, rfl, m0, m1, hr4, hu4, hs4⟩; have HU4 : Hid (Upd B (B + 1) w3 w4) := Lib.hid (Upd.trans (Upd.drew1 w3) hu4); clear hu4 hs4; have hs4 := HU4.out.size; have HK : ∃ k : Nat, m = (k : Int) ∧ k < 4 := ⟨m.toNat, by omega, by omega⟩; obtain ⟨k, rfl, hk⟩ := HK; have hk0 : (0 : Int) ≤ (k : Int) := (by omega); have hk1 : (k : Int) < 4 := (by omega); have hk2 : (k : Int) < (R.length : Int) := (by have := HR.out; omega); clear m0 m1)
          | (go_at_call 66; have HRP : Reader (w3.alloc (.cells #[.int .i64 1, .int .i64 2] 3)).drew B (c + 24 + 24 + 1) := RD.out.upd (lo := 0) (hi := 0) ((Upd.alloc w3 _).trans (Upd.drew1 _)) (by omega); (with_reducible refine Calls.mono (pick_any _ _ _ 4 HRP ?hc ?hd ?he) ?_); (case hc => omega); (case hd => omega); (case he => omega); rintro e w4 ⟨m, rfl, m0, m1, hr4, hu4, hs4⟩; have HU4 : Hid (Upd B (B + 1) w3 w4) := Lib.hid (Upd.trans ((Upd.alloc w3 _).trans (Upd.drew1 _)) hu4); have HIL : Hid (Ints w4 w3.heap.size (w3.heap.size + 1) (some ⟨w3.heap.size, 0, none⟩) [1, 2]) := Lib.hid (((ints_lit w3 [1, 2] 3 (fun x hx => by simp at hx; omega) (by simp)).upd (Upd.drew1 (lo := 0) (hi := 0) _) (by omega)).upd hu4 (by have := RD.out.lt; omega)); clear hu4 hs4; have hs4 := HU4.out.size; have HK : ∃ k : Nat, m = (k : Int) ∧ k < 4 := ⟨m.toNat, by omega, by omega⟩; obtain ⟨k, rfl, hk⟩ := HK; have hk0 : (0 : Int) ≤ (k : Int) := (by omega); have hk1 : (k : Int) < 4 := (by omega); have hk2 : (k : Int) < (R.length : Int) := (by have := HR.out; omega); clear m0 m1)
          | (go_at_call 67; have HRP : Reader (w4.alloc (.cells #[.int .i64 1, .int .i64 2] 3)) B (c + 24 + 24 + 1 + 1) := hr4.keep ((Below.refl _ _).alloc hr4.lt _); have HIL : Ints (w4.alloc (.cells #[.int .i64 1, .int .i64 2] 3)) w4.heap.size (w4.heap.size + 1) (some ⟨w4.heap.size, 0, none⟩) [1, 2] := ints_lit w4 [1, 2] _ (fun x hx => by simp at hx; omega) (by simp); (with_reducible refine Calls.mono (spoil_any _ _ _ _ _ _ 2 [1, 2] HRP ?hb HIL ?he ?hf ?hg) ?_); (case hb => omega); (case he => simp); (case hf => simp); (case hg => exact hr4.lt); rintro e w5 ⟨a5, cap5, l5, rfl, hi5, hq5, hr5, hu5⟩; have HU5 : Hid (Upd B (B + 1) w3 w5) := Lib.hid (HU4.out.trans ((Upd.alloc w4 _).trans hu5)); have HI5 := Lib.hid hi5; have HR5 := Lib.hid hr5; have HS5 := Lib.hid hu5.size; clear hi5 hq5 hr5 hu5; have HO5 := Lib.hid (owns_upd HOW.out HU5.out (by omega)); have hf := HO5.out.frozenAt k; obtain ⟨ak, ck, hvk, _, _⟩ := HRW.out.2 k (by omega); have hcell := (HO5.out.cellAt k (by omega)).trans hvk; clear hvk; have t0' := HU5.out.cell HT0.out (by show _ < B ∨ B + 1 ≤ w2.heap.size; omega))
          | (go_at_call 67; have HIL2 := HIL.out; (with_reducible refine Calls.mono (spoil_any _ _ _ _ _ _ 2 [1, 2] hr4 ?hb HIL2 ?he ?hf ?hg) ?_); (case hb => omega); (case he => simp); (case hf => simp); (case hg => exact RD.out.lt); rintro e w5 ⟨a5, cap5, l5, rfl, hi5, hq5, hr5, hu5⟩; have HU5 : Hid (Upd B (B + 1) w3 w5) := Lib.hid (HU4.out.trans hu5); have HI5 := Lib.hid hi5; have HR5 := Lib.hid hr5; have HS5 := Lib.hid hu5.size; clear hi5 hq5 hr5 hu5; have HO5 := Lib.hid (owns_upd HOW.out HU5.out (by omega)); have hf := HO5.out.frozenAt k; obtain ⟨ak, ck, hvk, _, _⟩ := HRW.out.2 k (by omega); have hcell := (HO5.out.cellAt k (by omega)).trans hvk; clear hvk; have t0' := HU5.out.cell HT0.out (by show _ < B ∨ B + 1 ≤ w2.heap.size; omega)))
      all_goals
        have us : Upd g (g + 1) w5 (w5.setCell ⟨g, k, none⟩ (.slice a5 l5.length cap5)) := Upd.setCell _ ⟨g, k, none⟩ _ (Nat.le_refl _) (Nat.lt_succ_self _)
        have hs5 := HU5.out.size
        have hs6 := us.size
        have T0 := us.cell (HU5.out.cell HT0.out (by show _ < B ∨ B + 1 ≤ w2.heap.size; omega)) (by show w2.heap.size < g ∨ g + 1 ≤ w2.heap.size; omega)
        have T1 := us.cell (HU5.out.cell t1 (by show _ < B ∨ B + 1 ≤ w2.heap.size; omega)) (by show w2.heap.size < g ∨ g + 1 ≤ w2.heap.size; omega)
        have Z6 := (us.block w.heap.size (by omega) (by omega)).trans ((HU5.out.block w.heap.size (by omega) (by omega)).trans HZ.out)
        have R6 := (HR5.out.upd us (by omega)).mono (show _ ≤ c + 60 by omega)
        have L6 := Lib.hid ((HL3.out.1.upd HU5.out (by omega)).upd us (by omega))
        have HO6 := HO5.out.stored k (.slice a5 l5.length cap5)
        have Q5 := ((HRW.out.upd HU5.out (by omega)).wide (Nat.le_refl _) (show w2.heap.size ≤ w5.heap.size by omega)).set (cap := cap5) (HI5.out.1.wide (by first | omega | (simp; omega)) (Nat.le_refl _)) HI5.out.2.1 k
        have Q6 := Q5.grown HO5.out (by decide) HO6.2
        obtain ⟨a', cap', hv, hl⟩ := lists_of_owns (ll := R.set k l5) ⟨_, by simpa using HO6.1, Q6.wide (Nat.le_refl _) HO6.2.size⟩ (by simp; omega) (Nat.le_refl _)
        simp only [Value.slice.injEq] at hv
        obtain ⟨rfl, hx, rfl⟩ := hv
        clear hx
        have HQ := Lib.hid hl
        have U6 : Hid (Upd B (B + 1) w (w5.setCell ⟨g, k, none⟩ (.slice a5 l5.length cap5))) := by
          have hu5 := HU3.out.trans HU5.out
          exact ⟨us.os.trans hu5.os, us.tape.trans hu5.tape, us.output.trans hu5.output, Nat.le_trans hu5.size hs6, fun j hj hd => by rw [us.block j (by have := hu5.size; omega) (by omega)]; exact hu5.block j hj hd⟩
        clear HO6 Q5 Q6 us hl hcell hf t0' t1
        generalize w5.setCell ⟨g, k, none⟩ (.slice a5 l5.length cap5) = w6 at *
        have z0 := cells2_0 Z6
        have z1 := cells2_1 Z6
        have zf := cells2_f Z6
        have Z6' := Lib.hid Z6
        clear Z6
        go_wp2_with fail
        obtain ⟨c0, c1⟩ := store2 Z6'.out (.slice a1 L.length cap1) (.slice (some ⟨g, 0, none⟩) R.length cap2)
        (try simp only [Exit.inBlock, Exit.then])
        refine bodyPost_ret (v := .agg #[.slice a1 L.length cap1, .slice (some ⟨g, 0, none⟩) R.length cap2]) (by simp [results, Try.results34, go_sem, c0, c1]) rfl ?_
        rw [show R.length = (R.set k l5).length by simp]
        exact book_end hB R6 U6.out ⟨L6.out.wide (Nat.le_refl _) (by omega), HL3.out.2⟩ ⟨HQ.out.wide (by omega) (Nat.le_refl _), by simp; omega, hg2⟩ _ _
    · go_wp2_with fail
      obtain ⟨c0, c1⟩ := store2 HZ.out (.slice a1 L.length cap1) (.slice a2 R.length cap2)
      (try simp only [Exit.inBlock, Exit.then])
      refine bodyPost_ret (v := .agg #[.slice a1 L.length cap1, .slice a2 R.length cap2]) (by simp [results, Try.results34, go_sem, c0, c1]) rfl ?_
      exact book_end hB (hr3.mono (by omega)) HU3.out ⟨HL3.out.1.wide (Nat.le_refl _) (by omega), HL3.out.2⟩ ⟨HR3.out.1.wide (by omega) (by omega), HR3.out.2⟩ _ _
end Go.Proofs.Ytllahaebfhaobaa
