/-
  The walks of ListsOf, the program's and the reference's.
-/
import Derived.Test.YtmpoljhdcgdnnaaListsPlain
import Derived.Test.YtmpoljhdcgdnnaaRowsOwn
import Derived.Test.YtmpoljhdcgdnnaaClusWalks
import Derived.Deep.RegionHeld3
import Derived.Deep.RegionLaw
namespace Go.Proofs.Ytmpoljhdcgdnnaa
open Go.RowKit
set_option linter.unusedVariables false

theorem lstV_ok (cs : List (List Int)) (ll : List It) : LOk (lstV cs ll) := by
  cases h : csB cs ll
  · rw [lstV_no h]; exact lOk_nil
  · rw [lstV_yes h]
    have h1 := storeB_len (csB_store h)
    have h2 := (cenB_len (csB_cen h)).2
    refine ⟨by rw [lstT_length]; omega, fun j hj => ?_⟩
    rw [lstT_length] at hj
    rw [lstT_get hj]
    have h3 := ownK_len cs ll j ll.length
    exact ⟨by omega, fun x hx => by have := ownK_ok (csB_store h) (Nat.le_refl _) x hx; omega⟩
theorem NilR.newL {w w' : World} {e : Ending} (h : NilR w e w') : NewLists w [] e w' := by
  obtain ⟨rfl, hb⟩ := h
  exact NewLists.nil hb
set_option maxHeartbeats 2000000 in
theorem implListsOf_yes (w : World) (lo hi lo' hi' : Nat) (a b : Option Addr) (cap cap' : Nat) (cs : List (List Int)) (ll : List It) (hA : Lists w lo hi a cs) (hI : Items w lo' hi' b ll) (hv : csB cs ll = true) :
    Calls Try.prog 42 #[.slice a cs.length cap, .slice b ll.length cap'] w (NewLists w (lstT cs ll ll.length cs.length)) := by
  obtain ⟨i, hi0, hz, hi1, hi2⟩ := info_parts infoInts
  obtain ⟨ii, hj0, hjz, hj1, hj2⟩ := info_parts infoInt
  have h1 := csB_cen hv
  have h2 := csB_store hv
  have HV := Lib.hid hv
  have hl16 := storeB_len h2
  have hlc := (cenB_len h1).1
  have hlc4 := (cenB_len h1).2
  go_enter Try.func42, Try.ntmps42
  go_wp2_with fail
  refine (areVectors_any _ _ _ _ _ _ 4 hA).mono ?_
  rintro e w2 ⟨rfl, rfl⟩
  go_wp2_with fail
  refine (implValidStore _ _ _ _ _ _ hI).mono ?_
  rintro e w2 ⟨rfl, hb2⟩
  replace hA := hA.below hb2
  replace hI := hI.below hb2
  have HB := Lib.hid hb2
  clear hb2
  go_wp2_with (at_make; refine wpList_make_full _ rfl _ _ 23 rfl w2.heap.size 25 i (.slice none 0 0) 1 Try.underlying23 hi0 hz hi1 .i64 .i64 _ _ cs.length rfl rfl rfl rfl (by rw [hi2]; omega) (by unfold maxLen; omega) (Nat.le_refl _) ?_; intro w1 hown hg; have HO := Lib.hid hown; have HG := Lib.hid hg; clear hown hg)
  clear h1 h2
  have HO0 : Hid (w1.ownsRow w2.heap.size 25 1 (.slice (some ⟨w2.heap.size, 0, none⟩) cs.length cs.length) cs.length (List.replicate cs.length nilV)) := by
    have := HO.out
    rw [Nat.mul_one, show (Value.slice none 0 0).cells = #[Value.slice none 0 0] from rfl, toList_madeCells_one] at this
    exact Lib.hid this
  have hsz1 : w2.heap.size < w1.heap.size := ((HO0.out.lt _ rfl)).2
  have HB1 : Hid (Below w2.heap.size w2 w1) := Lib.hid ((Below.refl _ _).grown HG.out (Nat.le_refl _) (fun j hj => by cases hj))
  clear HO HG
  go_loopw [22] (fun i wr => ∃ (k : Nat) (vs : List Value), k ≤ ll.length ∧ i = .int .i64 (k : Int) ∧ Hid (wr.ownsRow w2.heap.size 25 1 (.slice (some ⟨w2.heap.size, 0, none⟩) cs.length cs.length) cs.length vs) ∧ Hid (RowsO wr (w2.heap.size + 1) wr.heap.size vs (lstT cs ll k cs.length)) ∧ Hid (Below w2.heap.size w2 wr) ∧ w2.heap.size < wr.heap.size) (fun i _ => ll.length - (intOf i).toNat)
  case atStart => exact ⟨0, _, Nat.zero_le _, rfl, HO0.out, by rw [lstT_zero]; exact rowsO_nils _ _ _ _, HB1.out, hsz1⟩
  case round =>
    obtain ⟨k, vs, hk, rfl, HO, HR, HW, hsr⟩ := hrel
    by_cases hlt : k < ll.length
    · have hs := hI.below HW.out
      obtain ⟨bb, off, rfl, _, hbh, aj, cj, c0, c1, c2, hx, hcj, hk1, hk2⟩ := hs.at_ hlt
      have VX := Lib.hid (storeB_vec (csB_store HV.out) hlt)
      have HN0 := asg_lt (csB_cen HV.out) ll k
      have HS := Lib.hid (lstT_step HN0)
      have HLG := Lib.hid (lstT_get (cs := cs) (ll := ll) (k := k) HN0)
      have HKL := Lib.hid (ownK_len cs ll (asg cs ll k) k)
      have HN := Lib.hid HN0
      clear HN0
      have HA : Hid (near cs (ll.getD k It.no).pos = asg cs ll k) := Lib.hid rfl
      obtain ⟨x, ex⟩ : ∃ x, ll.getD k It.no = x := ⟨_, rfl⟩
      rw [ex] at c0 c1 c2 hx hcj hk1 hk2 VX HA HS
      clear ex hs
      have hb := below_alloc wr (.cells #[.int .i64 x.key, .slice aj x.pos.length cj, .int .i64 x.tags] 74)
      obtain ⟨d0, d1, d2⟩ := cells3_new wr (.int .i64 x.key) (.slice aj x.pos.length cj) (.int .i64 x.tags) 74
      have HR0 := Lib.hid (rowsOk_of (cenB_vecs (csB_cen HV.out)) VX.out (by omega))
      have C := Lib.hid (implCentreOfIn _ _ _ _ _ _ _ cap cj cs x.pos ((hA.below HW.out).below hb) (hx.below hb) HR0.out (vecB_coords VX.out) hlc)
      rw [HA.out] at C
      have HBA := Lib.hid hb
      clear hb
      go_wp2_with fail
      refine C.out.mono ?_
      rintro e w3 ⟨rfl, hd⟩
      obtain ⟨n, hn⟩ : ∃ n, asg cs ll k = n := ⟨_, rfl⟩
      rw [hn] at HS HN HLG HKL ⊢
      have hn4 : n < cs.length := HN.out
      obtain ⟨kx, hkx⟩ : ∃ kx, x.key = kx := ⟨_, rfl⟩
      rw [hkx] at HS d0 HBA hd
      have HW3 : Hid (Below wr.heap.size wr w3) := Lib.hid (HBA.out.trans hd.below)
      have hs3 := HW3.out.size
      have hbox : wr.heap.size < w3.heap.size := by have := size_drawn hd; simp at this; omega
      have HO3 := Lib.hid (owns_upd HO.out (Upd.of_below (lo := 0) (hi := 0) HW3.out) (by omega))
      have HR3 := Lib.hid (HR.out.below HW3.out)
      -- the row
      obtain ⟨row, hrow⟩ : ∃ row, ownK cs ll n k = row := ⟨_, rfl⟩
      rw [hrow] at HS HLG HKL
      have hq := HR3.out.2.1 n (by rw [lstT_length]; exact hn4)
      rw [HLG.out] at hq
      have hne := owns_ne HO3.out hq.1 (by decide)
      have hvs : vs.length = cs.length := by have := HR.out.1; rw [lstT_length] at this; exact this
      have hc0 : w3.cell? ⟨w2.heap.size, n, none⟩ = some (vs.getD n nilV) := by
        rw [HO3.out.cellAt n (by omega), List.getD_eq_getElem?_getD, List.getElem?_eq_getElem (by omega)]; rfl
      obtain ⟨ar, cr, hf, hfc⟩ := owns_form hq.1
      have HVN := Lib.hid hf
      rw [hf] at hq hne hc0
      have hf0 : w3.frozen? ⟨w2.heap.size, n, none⟩ = false := HO3.out.frozenAt n
      have hk0 : w3.cell? ⟨wr.heap.size, 0, none⟩ = some (.int .i64 kx) := cell_later hd.below d0
      have bA := (below_alloc w3 (.cells #[.int .i64 kx] 3)).drew
      have hrl : row.length ≤ k := HKL.out
      obtain ⟨rn, hrn⟩ : ∃ rn, row.length = rn := ⟨_, rfl⟩
      have HRN := Lib.hid hrn
      rw [hrn] at hq hne hc0 hfc hrl HVN
      have K0 := Lib.hid (cell_later bA hc0)
      have K1 := Lib.hid (cell_later bA hk0)
      have kA : (w3.alloc (.cells #[.int .i64 kx] 3)).cell? ⟨w2.heap.size, n, none⟩ = some (.slice ar rn cr) := K0.out
      have kB : (w3.alloc (.cells #[.int .i64 kx] 3)).cell? ⟨wr.heap.size, 0, none⟩ = some (.int .i64 kx) := K1.out
      have KF : Hid ((w3.alloc (.cells #[.int .i64 kx] 3)).drew.frozen? ⟨w2.heap.size, n, none⟩ = false) := Lib.hid ((HO3.out.alloc (.cells #[.int .i64 kx] 3)).drew.frozenAt n)
      have NEWS : Hid (∀ j u, [Value.int .i64 kx][j]? = some u → ((w3.alloc (.cells #[.int .i64 kx] 3)).drew).cell? ((⟨w3.heap.size, 0, none⟩ : Addr).add j) = some u) := Lib.hid (World.news_of_block (heap_alloc_new w3 (.cells #[.int .i64 kx] 3)))
      have HQ : Hid ((w3.alloc (.cells #[.int .i64 kx] 3)).drew.ownsRow (w2.heap.size + 1) 3 1 (.slice ar rn cr) rn (row.map (Value.int .i64))) := Lib.hid (hq.1.alloc _).drew
      have HNE : Hid (some w2.heap.size ≠ (Value.slice ar rn cr).ownBlock) := Lib.hid (hne.elim (fun h => by simp [Value.ownBlock] at h) (fun h => h))
      have HNE2 : Hid (some wr.heap.size ≠ (Value.slice ar rn cr).ownBlock) := Lib.hid fun e => by have := hq.2 _ e.symm; omega
      have HLB := Lib.hid (And.intro hsr (And.intro hs3 hbox))
      have hnc : (n : Int) < cs.length := by omega
      have hn0 : (0 : Int) ≤ n := by omega
      clear hd c0 c1 c2 d0 d1 d2 C hq hne bA hn hkx hrow hf hfc hvs hrn HBA hcj hk1 hk2
      go_wp2_with fail
      go_region_law
        (first
          | (refine step_append_lies _ (by rfl) (.tmp 35) (.tmp 38) 25 (by rfl) (w2.heap.size + 1) 3 ii (.int .i64 0) 1 8 Try.underlying25 hj0 hjz hj1 hj2 rfl (by omega) (.slice ar rn cr) rn (row.map (Value.int .i64)) (by rfl) HQ.out ⟨w3.heap.size, 0, none⟩ 1 1 [.int .i64 kx] (by rfl) (by rfl) NEWS.out (ints_cells [kx]) (by omega) (by unfold maxLen; omega) (by omega) (by have := HLB.out; simp; omega) (w3.heap.size + 1) (by simp) ?_; intro g1 c1 wa hown1 hg1 hat1 hlt1; have hwc := hg1.cell K0.out HNE.out; have hwf := (hg1.frozen_far _ (by have := HLB.out; show w2.heap.size < _; simp; omega) HNE.out).trans KF.out))
      go_wp2_with fail
      all_goals
        have hown2 : wa.ownsRow (w2.heap.size + 1) 3 1 (.slice (some ⟨g1, 0, none⟩) (rn + 1) c1) (row ++ [kx]).length ((row ++ [kx]).map (Value.int .i64)) := by
          rw [List.map_append, List.length_append, HRN.out]; exact hown1
        have HOA := Lib.hid (HO3.out.alloc (.cells #[.int .i64 kx] 3)).drew
        have HOS := (HOA.out.kept hg1 (.inr HNE.out)).stored n (.slice (some ⟨g1, 0, none⟩) (rn + 1) c1)
        have us := upd_set wa w2.heap.size n (.slice (some ⟨g1, 0, none⟩) (rn + 1) c1)
        have hB1 : Below w2.heap.size w2 w3 := HW.out.trans (HW3.out.mono HW.out.size)
        have hB2 : Below w2.heap.size w2 (w3.alloc (.cells #[.int .i64 kx] 3)).drew := (hB1.alloc (by omega) _).drew
        have hB3 := hB2.grown hg1 hB2.size (fun j hj => by have := owns_block HQ.out j hj; omega)
        have hB4 := hB3.grown HOS.2 hB3.size (fun j hj => by cases hj; exact Nat.le_refl _)
        have hRA : RowsO (w3.alloc (.cells #[.int .i64 kx] 3)).drew (w2.heap.size + 1) wr.heap.size vs (lstT cs ll k cs.length) := HR3.out.below (Below.drew (below_alloc w3 (.cells #[.int .i64 kx] 3)))
        have hsa := hg1.size
        have hsa' : w3.heap.size + 1 ≤ wa.heap.size := by simpa using hsa
        have hR4 := RowsO.setRow hRA (by rw [lstT_length]; exact hn4) (by rw [HVN.out]; exact hg1) hown2 (g := g1) rfl (by rw [HVN.out]; exact hat1.imp id fun h => by omega) hlt1 (by omega)
        rw [← HS.out] at hR4
        have hR5 := hR4.upd us (.inl (Nat.le_refl _))
        have hss := us.size
        exact ⟨⟨k + 1, _, by omega, by go_num, HOS.1, hR5.wide (Nat.le_refl _) hss, hB4, by omega⟩, by simp [intOf]; omega⟩
    · have hk' : k = ll.length := by omega
      subst hk'
      go_wp2_with fail
      go_ret
      have hb := HB.out
      exact (NewLists.mk (lstT_length _ _ _ _) HO.out (HR.out.wide (by omega) (Nat.le_refl _)) HW.out).later hb
set_option maxHeartbeats 1000000 in
theorem implListsOf_no (w : World) (lo hi lo' hi' : Nat) (a b : Option Addr) (cap cap' : Nat) (cs : List (List Int)) (ll : List It) (hA : Lists w lo hi a cs) (hI : Items w lo' hi' b ll) (hv : csB cs ll = false) :
    Calls Try.prog 42 #[.slice a cs.length cap, .slice b ll.length cap'] w (NilR w) := by
  have HB : Hid (Below w.heap.size w w) := Lib.hid (Below.refl _ _)
  rcases csB_cases hv with h1 | ⟨h1, h2⟩
  · go_enter Try.func42, Try.ntmps42
    go_wp2_with fail
    refine (areVectors_any _ _ _ _ _ _ 4 hA).mono ?_
    rintro e w2 ⟨rfl, rfl⟩
    go_wp2_with fail
    go_ret
    exact ⟨rfl, HB.out⟩
  · go_enter Try.func42, Try.ntmps42
    go_wp2_with fail
    refine (areVectors_any _ _ _ _ _ _ 4 hA).mono ?_
    rintro e w2 ⟨rfl, rfl⟩
    go_wp2_with fail
    refine (implValidStore _ _ _ _ _ _ hI).mono ?_
    rintro e w2 ⟨rfl, hb2⟩
    replace HB := Lib.hid (HB.out.trans (hb2.mono HB.out.size))
    clear hb2
    go_wp2_with fail
    go_ret
    exact ⟨rfl, HB.out⟩
theorem implListsOf_new (w : World) (lo hi lo' hi' : Nat) (a b : Option Addr) (cap cap' : Nat) (cs : List (List Int)) (ll : List It) (hA : Lists w lo hi a cs) (hI : Items w lo' hi' b ll) :
    Calls Try.prog 42 #[.slice a cs.length cap, .slice b ll.length cap'] w (NewLists w (lstV cs ll)) := by
  cases hv : csB cs ll
  · rw [lstV_no hv]
    exact (implListsOf_no w lo hi lo' hi' a b cap cap' cs ll hA hI hv).mono fun _ _ h => h.newL
  · rw [lstV_yes hv]
    exact implListsOf_yes w lo hi lo' hi' a b cap cap' cs ll hA hI hv
theorem implListsOf_read (w : World) (lo hi lo' hi' : Nat) (a b : Option Addr) (cap cap' : Nat) (cs : List (List Int)) (ll : List It) (hA : Lists w lo hi a cs) (hI : Items w lo' hi' b ll) :
    Calls Try.prog 42 #[.slice a cs.length cap, .slice b ll.length cap'] w (GetLists w (lstV cs ll)) :=
  (implListsOf_new w lo hi lo' hi' a b cap cap' cs ll hA hI).mono fun _ _ h => h.read (lstV_ok cs ll)
theorem lstV_asc (cs : List (List Int)) (ll : List It) : ∀ c, c < (lstV cs ll).length → ∀ i, i + 1 < ((lstV cs ll).getD c []).length → ((lstV cs ll).getD c []).getD i 0 < ((lstV cs ll).getD c []).getD (i + 1) 0 := by
  cases h : csB cs ll
  · rw [lstV_no h]; intro c hc; exact absurd hc (Nat.not_lt_zero _)
  · rw [lstV_yes h]
    intro c hc
    rw [lstT_length] at hc
    rw [lstT_get hc]
    exact ownK_asc (csB_store h) (Nat.le_refl _)
end Go.Proofs.Ytmpoljhdcgdnnaa
