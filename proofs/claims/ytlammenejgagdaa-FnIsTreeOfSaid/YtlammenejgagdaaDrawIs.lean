/-
  What the Draw function of IsTreeOf hands over, whatever the code.
-/
import Derived.Test.YtlammenejgagdaaDrawTree
import Derived.Test.YtlammenejgagdaaTreeIs
namespace Go.Proofs.Ytlammenejgagdaa
open Go.RowKit
set_option linter.unusedVariables false

theorem bytes_below {w w' : World} {a : Option Addr} {n cap : Nat} {f : Nat → Int} (h : Bytes w a n cap f) (u : Below w.heap.size w w') : Bytes w' a n cap f :=
  ⟨h.1, h.2.1, h.2.2.1, fun hn => by
    obtain ⟨b, off, ha, hc⟩ := h.2.2.2 hn
    exact ⟨b, off, ha, fun j hj => ⟨cell_later u (hc j hj).1, (hc j hj).2⟩⟩⟩
/-- a drawn store, in new memory, and a kind -/
def DrawnPairN (w : World) (e : Ending) (w' : World) : Prop :=
  ∃ (a : Option Addr) (cap : Nat) (ll : List It) (kind : Int), e = .returned (.tuple #[.slice a ll.length cap, .int .i64 kind]) ∧ (Items w' w.heap.size w'.heap.size a ll ∧ Cap ll.length cap) ∧ ll.length ≤ 17 ∧ (0 ≤ kind ∧ kind ≤ 20) ∧ Below w.heap.size w w'
set_option maxHeartbeats 400000 in
theorem DrawClosestPair_new (w : World) (a : Option Addr) (n cap : Nat) (f : Nat → Int) (h : Bytes w a n cap f) :
    Calls Try.prog 23 #[.slice a n cap] w (DrawnPairN w) := by
  have H := Lib.hid h
  clear h
  go_enter Try.func23, Try.ntmps23
  go_wp2_with fail
  refine (newReader_any _ _ _ _ f H.out).mono ?_
  rintro e w1 ⟨rfl, hr, hb, hs⟩
  have HB := Lib.hid hb
  have hbs := hb.size
  clear hs hb
  go_wp2_with fail
  refine (anyStore_any _ _ _ hr (by omega)).mono ?_
  rintro e w2 ⟨a2, cap2, ll, rfl, ho, hq, hr2, hu⟩
  obtain ⟨a', c', hv, hi, hc⟩ := items_of_owns ho (by omega) (Nat.le_refl _)
  simp only [Value.slice.injEq] at hv
  obtain ⟨rfl, _, rfl⟩ := hv
  have HI := Lib.hid (And.intro hi hc)
  have HU := Lib.hid hu
  have hs2 := hu.size
  have hrl := hr.lt
  clear hi hu hc ho
  go_wp2_with fail
  refine (anyKind_any _ _ _ hr2 (by omega)).mono ?_
  rintro e w3 ⟨kind, rfl, hk, hr3, hu3⟩
  have HU3 := Lib.hid hu3
  have hs3 := hu3.size
  clear hu3 hr3
  go_wp2_with fail
  go_ret2
  exact ⟨a2, cap2, ll, kind, rfl, ⟨(HI.out.1.upd HU3.out (by omega)).wide hbs hs3, HI.out.2⟩, hq, hk, HB.out.trans ((HU.out.trans HU3.out).low (Nat.le_refl _) hbs)⟩
def DrawnTree (w : World) (e : Ending) (w' : World) : Prop :=
  ∃ (a0 a : Option Addr) (cap0 cap : Nat) (N : List Nd) (ll : List It) (kind : Int), e = .returned (.tuple #[.slice a0 N.length cap0, .slice a ll.length cap, .int .i64 kind]) ∧ (Nodes w' 0 w'.heap.size a0 N ∧ Cap N.length cap0) ∧ (Items w' 0 w'.heap.size a ll ∧ Cap ll.length cap) ∧ (N.length ≤ 17 ∧ ll.length ≤ 17) ∧ Below w.heap.size w w'
theorem btV_len (kind : Int) (ll : List It) : (btV kind ll).length ≤ ll.length := by
  unfold btV
  split
  · rw [Tr.nds_length, tr_size]; exact Nat.le_refl _
  · simp
theorem flatN_put {l : List Nd} {j d : Nat} {u : Value} (hj : j < l.length) (hd : d < 4) (y : Nd) (h : ndCells y = (ndCells (l.getD j Nd.no)).set d u) : (flatN l).set (j * 4 + d) u = flatN (l.set j y) := by
  rcases flatN_set d u hj y h with e | e
  · exact e
  · omega
/-- what the walk has at its end -/
theorem drawnTree_mk {w w2 w3 wz : World} {B : Nat} {a0 a : Option Addr} {cap0 cap : Nat} {N : List Nd} {ll : List It} {kind : Int} (hB : B = w.heap.size) (hI : Items w2 (B + 1) w2.heap.size a ll ∧ Cap ll.length cap) (hb3 : Below w2.heap.size w2 w3) (hw2 : Below w.heap.size w w2)
    (hN : Nodes wz 0 wz.heap.size a0 N) (hc : Cap N.length cap0) (hl : N.length ≤ 17 ∧ ll.length ≤ 17) (hu : ∀ q, q < w3.heap.size → q ≠ B → q < w2.heap.size → wz.heap[q]? = w3.heap[q]?) (hz : wz.os = w3.os ∧ wz.tape = w3.tape ∧ wz.output = w3.output ∧ w3.heap.size ≤ wz.heap.size) :
    DrawnTree w (.returned (.tuple #[.slice a0 N.length cap0, .slice a ll.length cap, .int .i64 kind])) wz := by
  have s2 := hw2.size
  have s3 := hb3.size
  have b : Below w.heap.size w wz := ⟨hz.1.trans (hb3.os.trans hw2.os), hz.2.1.trans (hb3.tape.trans hw2.tape), hz.2.2.1.trans (hb3.output.trans hw2.output), by omega, fun q hq => by
    rw [hu q (by omega) (by omega) (by omega), hb3.block q (by omega), hw2.block q hq]⟩
  refine ⟨a0, a, cap0, cap, N, ll, kind, rfl, ⟨hN, hc⟩, ⟨?_, hI.2⟩, hl, b⟩
  have u : Upd 0 (B + 1) w2 wz := ⟨hz.1.trans hb3.os, hz.2.1.trans hb3.tape, hz.2.2.1.trans hb3.output, by omega, fun q hq hd => by
    rw [hu q (by omega) (by omega) hq, hb3.block q hq]⟩
  exact (hI.1.upd u (.inr (.inl (Nat.le_refl _)))).wide (Nat.zero_le _) (by omega)
set_option maxHeartbeats 4000000 in
theorem DrawIsTreeOf_any (w : World) (a : Option Addr) (n cap : Nat) (f : Nat → Int) (h : Bytes w a n cap f) :
    Calls Try.prog 9 #[.slice a n cap] w (DrawnTree w) := by
  have H := Lib.hid h
  clear h
  go_enter Try.func9, Try.ntmps9
  go_wp2_with fail
  refine (newReader_any _ _ _ _ f H.out).mono ?_
  rintro e w1 ⟨rfl, hr, hb, hs⟩
  have HB := Lib.hid hb
  have hbs := hb.size
  have HR1 := Lib.hid hr
  have HS1 := Lib.hid hs
  have CP := Lib.hid (DrawClosestPair_new w1 a n cap f (bytes_below H.out hb))
  clear hs hb hr
  go_wp2_with fail
  refine CP.out.mono ?_
  rintro e w2 ⟨a2, cap2, ll, kind, rfl, hi, hq, hk, hb2⟩
  have HI := Lib.hid hi
  have HB2 := Lib.hid hb2
  have hs2 := hb2.size
  have HR2 := Lib.hid (HR1.out.keep (hb2.mono HR1.out.lt))
  have BT := Lib.hid (specBuildTree w2 _ _ a2 cap2 kind ll hi.1 hi.2)
  have HBW := Lib.hid (HB.out.trans (hb2.mono hbs))
  have HNL := Lib.hid (btV_len kind ll)
  obtain ⟨N, eN⟩ : ∃ N, btV kind ll = N := ⟨_, rfl⟩
  rw [eN] at BT HNL
  clear hi hb2 eN CP
  go_wp2_with fail
  refine BT.out.mono ?_
  rintro e w3 ⟨v, rfl, ho3, hb3⟩
  have HO3 := Lib.hid ho3
  have HB3 := Lib.hid hb3
  have hs3 := hb3.size
  have hBl := HR1.out.lt
  have HR3 := Lib.hid (HR2.out.keep (hb3.mono (by have := HR2.out.lt; omega)))
  have hnl : N.length ≤ ll.length := HNL.out
  obtain ⟨av, cv, rfl, hcv⟩ := owns_form ho3
  have HIB : Hid (Items w2 (w.heap.size + 1) w2.heap.size a2 ll ∧ Cap ll.length cap2) := Lib.hid ⟨HI.out.1.wide (by have := HS1.out; omega) (Nat.le_refl _), HI.out.2⟩
  clear ho3 hb3
  by_cases h0 : N.length = 0
  · have h0' : ¬ (0 : Int) < (N.length : Int) := by omega
    have HF : Hid (DrawnTree w (.returned (.tuple #[.slice av N.length cv, .slice a2 ll.length cap2, .int .i64 kind])) w3) := Lib.hid (drawnTree_mk rfl HIB.out HB3.out HBW.out (by rw [List.eq_nil_of_length_eq_zero h0]; exact Nodes.nil _ _ _ _) hcv ⟨by omega, hq⟩ (fun q _ _ _ => rfl) ⟨rfl, rfl, rfl, Nat.le_refl _⟩)
    clear h0 hcv
    go_wp2_with fail
    (try simp only [Exit.inBlock, Exit.then])
    refine bodyPost_ret (v := .tuple #[.slice av N.length cv, .slice a2 ll.length cap2, .int .i64 kind]) (by simp [results, Try.results9, go_sem]) rfl ?_
    exact HF.out
  · have h0' : (0 : Int) < (N.length : Int) := by omega
    obtain ⟨g, gc, hv, hg, hgc, hgm⟩ := owns_shape HO3.out (by omega)
    simp only [Value.slice.injEq] at hv
    obtain ⟨rfl, -, rfl⟩ := hv
    go_wp2_with fail
    refine (pick_any _ _ _ _ HR3.out (by omega) (by omega) (by omega)).mono ?_
    rintro e w4 ⟨p, rfl, p0, p1, hr4, hu4, hs4⟩
    have HU4 := Lib.hid hu4
    have hs4' := hu4.size
    have HO4 := Lib.hid (owns_upd HO3.out hu4 (by omega))
    have HR4 := Lib.hid hr4
    clear hu4 hs4 hr4
    by_cases hp : p = 0
    · subst hp
      go_wp2_with fail
      refine (pick_any _ _ _ _ HR4.out (by omega) (by omega) (by omega)).mono ?_
      rintro e w5 ⟨z, rfl, z0, z1, hr5, hu5, hs5⟩
      obtain ⟨j, rfl, hj⟩ : ∃ j : Nat, z = (j : Int) ∧ j < N.length := ⟨z.toNat, by omega, by omega⟩
      have HU5 := Lib.hid (HU4.out.trans hu5)
      have hs5' := hu5.size
      have HO5 := Lib.hid (owns_upd HO4.out hu5 (by omega))
      have HR5 := Lib.hid hr5
      clear hu5 hs5 hr5 z0 z1
      go_wp2_with fail
      refine (pick_any _ _ _ _ HR5.out (by omega) (by omega) (by omega)).mono ?_
      rintro e w6 ⟨y, rfl, y0, y1, hr6, hu6, hs6⟩
      have HU6 := Lib.hid (HU5.out.trans hu6)
      have hs6' := hu6.size
      have HO6 := Lib.hid (owns_upd HO5.out hu6 (by omega))
      have HR6 := Lib.hid hr6
      clear hu6 hs6 hr6
      have hj4 : (j : Int) < (N.length : Int) := by omega
      obtain ⟨⟨xk, xr, xn, xf⟩, ex⟩ : ∃ x, N.getD j Nd.no = x := ⟨_, rfl⟩
      have c1 := HO6.out.cellAt (j * 4 + 1) (by omega)
      have c2 := HO6.out.cellAt (j * 4 + 2) (by omega)
      have f1 := HO6.out.frozenAt (j * 4 + 1)
      rw [flatN_cell 1 (by omega) hj, ex] at c1
      rw [flatN_cell 2 (by omega) hj, ex] at c2
      replace c1 : w6.cell? ⟨g, j * 4 + 1, none⟩ = some (.int .i64 xr) := c1
      replace c2 : w6.cell? ⟨g, j * 4 + 2, none⟩ = some (.int .i64 xn) := c2
      have HEX := Lib.hid ex
      have HEND := Lib.hid (show ∀ (w7 : World) (u : Value) (d : Nat) (nd' : Nd), Upd w.heap.size (w.heap.size + 1) w3 w7 → w7.ownsRow w2.heap.size 46 4 (.slice (some ⟨g, 0, none⟩) N.length cv) N.length (flatN N) → d < 4 → ndCells nd' = (ndCells ⟨xk, xr, xn, xf⟩).set d u → DrawnTree w (.returned (.tuple #[.slice (some ⟨g, 0, none⟩) N.length cv, .slice a2 ll.length cap2, .int .i64 kind])) (w7.setCell ⟨g, j * 4 + d, none⟩ u) from fun w7 u d nd' hu7 ho7 hd hnd => by
        have ho8 := (ho7.stored (j * 4 + d) u).1
        rw [flatN_put hj hd nd' (by rw [HEX.out]; exact hnd)] at ho8
        have us := upd_set w7 g (j * 4 + d) u
        obtain ⟨ta, tc, hv, hT, hc⟩ := Nodes.of_own ho8 (by omega)
        have hls : (N.set j nd').length = N.length := List.length_set
        simp only [Value.slice.injEq] at hv
        obtain ⟨rfl, -, rfl⟩ := hv
        have hD := drawnTree_mk (N := N.set j nd') (kind := kind) rfl HIB.out HB3.out HBW.out (hT.wide (Nat.zero_le _) (Nat.le_refl _)) hc ⟨by rw [hls]; omega, hq⟩ (fun q h1 h2 h3 => by rw [us.block q (by have := hu7.size; omega) (by omega)]; exact hu7.block q h1 (by omega)) ⟨us.os.trans hu7.os, us.tape.trans hu7.tape, us.output.trans hu7.output, Nat.le_trans hu7.size us.size⟩
        rw [hls] at hD
        exact hD)
      clear ex
      by_cases hy0 : y = 0
      · subst hy0
        obtain ⟨u, eu⟩ : ∃ u, IntKind.i64.wrap (xr + 1) = u := ⟨_, rfl⟩
        have HF := Lib.hid (HEND.out w6 (.int .i64 u) 1 ⟨xk, u, xn, xf⟩ HU6.out HO6.out (by omega) rfl)
        clear HEND c2 y0 y1
        go_wp2_with fail
        (try simp only [Exit.inBlock, Exit.then])
        refine bodyPost_ret (v := .tuple #[.slice (some ⟨g, 0, none⟩) N.length cv, .slice a2 ll.length cap2, .int .i64 kind]) (by simp [results, Try.results9, go_sem]) rfl ?_
        exact HF.out
      · by_cases hy1 : y = 1
        · subst hy1
          clear c1 c2 f1 y0 y1 hy0
          go_wp2_with fail
          refine (pick_any _ _ _ _ HR6.out (by omega) (by omega) (by omega)).mono ?_
          rintro e w7 ⟨m, rfl, m0, m1, hr7, hu7, hs7⟩
          have HU7 := Lib.hid (HU6.out.trans hu7)
          have HO7 := Lib.hid (owns_upd HO6.out hu7 (by omega))
          have HF := Lib.hid (HEND.out w7 (.int .i64 (m - 1)) 2 ⟨xk, xr, m - 1, xf⟩ HU7.out HO7.out (by omega) rfl)
          have hwm : IntKind.i64.wrap (m - 1) = m - 1 := wrap_in (by omega)
          have c2 := HO7.out.cellAt (j * 4 + 2) (by omega)
          have f2 := HO7.out.frozenAt (j * 4 + 2)
          rw [flatN_cell 2 (by omega) hj, HEX.out] at c2
          replace c2 : w7.cell? ⟨g, j * 4 + 2, none⟩ = some (.int .i64 xn) := c2
          clear hr7 hu7 hs7 m0 m1 HEND
          go_wp2_with fail
          (try simp only [Exit.inBlock, Exit.then])
          refine bodyPost_ret (v := .tuple #[.slice (some ⟨g, 0, none⟩) N.length cv, .slice a2 ll.length cap2, .int .i64 kind]) (by simp [results, Try.results9, go_sem]) rfl ?_
          exact HF.out
        · have hy2 : y = 2 := by omega
          subst hy2
          have h1n : (1 : Int) ≤ (N.length : Int) := by omega
          obtain ⟨sl, hif⟩ : ∃ sl : Option Addr, (if cv = 1 then some (⟨g, 0, none⟩ : Addr) else some ⟨g, 4, none⟩) = sl := ⟨_, rfl⟩
          have HF : Hid (DrawnTree w (.returned (.tuple #[.slice sl (N.length - 1) (cv - 1), .slice a2 ll.length cap2, .int .i64 kind])) w6) := Lib.hid (by
            obtain ⟨ta, tc, hv, hT, hc⟩ := Nodes.of_own HO6.out (by omega)
            simp only [Value.slice.injEq] at hv
            obtain ⟨rfl, -, rfl⟩ := hv
            have hdl : (N.drop 1).length = N.length - 1 := List.length_drop
            have hD : Nodes w6 0 w6.heap.size sl (N.drop 1) := by
              rw [← hif]
              split
              · rw [List.eq_nil_of_length_eq_zero (show (N.drop 1).length = 0 by have := hc.1; omega)]
                exact Nodes.nil _ _ _ _
              · have := (hT.drop 1).wide (Nat.zero_le _) (Nat.le_refl _)
                rwa [Nat.zero_add, Nat.one_mul] at this
            have hM := drawnTree_mk (N := N.drop 1) (a0 := sl) (cap0 := cv - 1) (kind := kind) rfl HIB.out HB3.out HBW.out hD ⟨by have := hc.1; omega, by have := hc.2; omega⟩ ⟨by omega, hq⟩ (fun q h1 h2 _ => HU6.out.block q h1 (by omega)) ⟨HU6.out.os, HU6.out.tape, HU6.out.output, HU6.out.size⟩
            rw [hdl] at hM
            exact hM)
          clear c1 c2 f1 y0 y1 hy0 hy1 HEND
          go_wp2_with fail
          (try simp only [Exit.inBlock, Exit.then])
          refine bodyPost_ret (v := .tuple #[.slice sl (N.length - 1) (cv - 1), .slice a2 ll.length cap2, .int .i64 kind]) (by simp [results, Try.results9, go_sem]) rfl ?_
          exact HF.out
    · have hp' : (p == 0) = false := by simpa using hp
      have HF : Hid (DrawnTree w (.returned (.tuple #[.slice (some ⟨g, 0, none⟩) N.length cv, .slice a2 ll.length cap2, .int .i64 kind])) w4) := Lib.hid (by
        obtain ⟨ta, tc, hv, hT, hc⟩ := Nodes.of_own HO4.out (by omega)
        simp only [Value.slice.injEq] at hv
        obtain ⟨rfl, -, rfl⟩ := hv
        exact drawnTree_mk rfl HIB.out HB3.out HBW.out (hT.wide (Nat.zero_le _) (Nat.le_refl _)) hc ⟨by omega, hq⟩ (fun q h1 h2 _ => HU4.out.block q h1 (by omega)) ⟨HU4.out.os, HU4.out.tape, HU4.out.output, HU4.out.size⟩)
      clear hp
      go_wp2_with fail
      (try simp only [Exit.inBlock, Exit.then])
      refine bodyPost_ret (v := .tuple #[.slice (some ⟨g, 0, none⟩) N.length cv, .slice a2 ll.length cap2, .int .i64 kind]) (by simp [results, Try.results9, go_sem]) rfl ?_
      exact HF.out
end Go.Proofs.Ytlammenejgagdaa
