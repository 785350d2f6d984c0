/-
  The walks of the mean of vectors, the program's and the reference's.
-/
import Derived.Test.YtfgjmfnbpbanmaaMovePlain
import Derived.Test.YtfgjmfnbpbanmaaRowsOwn
import Derived.Test.YtfgjmfnbpbanmaaClusWalks
namespace Go.Proofs.Ytfgjmfnbpbanmaa
open Go.RowKit
set_option linter.unusedVariables false

theorem ints_at {l : List Int} {j : Nat} (hj : j < l.length) : (l.map (Value.int .i64))[j]? = some (.int .i64 (l.getD j 0)) := by
  rw [List.getElem?_map, List.getElem?_eq_getElem hj, List.getD_eq_getElem?_getD, List.getElem?_eq_getElem hj]; rfl
set_option maxHeartbeats 400000 in
theorem implFloorDiv (w : World) (a : Int) (n : Nat) (hn : 1 ≤ n) (hn2 : n ≤ 1000) (ha : -100000 ≤ a ∧ a ≤ 100000) :
    Calls Try.prog 46 #[.int .i64 a, .int .i64 (n : Int)] w fun e w' => e = .returned (.int .i64 (a / (n : Int))) ∧ w = w' := by
  have hp : (0 : Int) < n := by omega
  have HF := Lib.hid (floor_eq (a := a) hp)
  have hb : -100000 ≤ a.tdiv (n : Int) ∧ a.tdiv (n : Int) ≤ 100000 := by
    have h1 : (a.tdiv n).natAbs ≤ a.natAbs := by rw [Int.natAbs_tdiv]; exact Nat.div_le_self _ _
    omega
  have hz : ((n : Int) == 0) = false := by rw [beq_eq_false_iff_ne]; omega
  have hz2 : ¬ ((n : Int) = 0) := by omega
  have hw1 : IntKind.i64.wrap (a.tdiv (n : Int)) = a.tdiv (n : Int) := wrap_in (by omega)
  have hw2 : IntKind.i64.wrap (a.tdiv (n : Int) - 1) = a.tdiv (n : Int) - 1 := wrap_in (by omega)
  by_cases hr : a.tmod (n : Int) < 0
  · have hrd : decide (a.tmod (n : Int) < 0) = true := decide_eq_true hr
    rw [if_pos hr] at HF
    go_enter Try.func46, Try.ntmps46
    go_wp2_with fail
    go_ret
    exact ⟨ret_int HF.out, rfl⟩
  · have hrd : decide (a.tmod (n : Int) < 0) = false := decide_eq_false hr
    rw [if_neg hr] at HF
    go_enter Try.func46, Try.ntmps46
    go_wp2_with fail
    go_ret
    exact ⟨ret_int HF.out, rfl⟩
set_option maxHeartbeats 400000 in
theorem specFloorDiv (w : World) (a : Int) (n : Nat) (hn : 1 ≤ n) (hn2 : n ≤ 1000) (ha : -100000 ≤ a ∧ a ≤ 100000) :
    Calls Try.prog 67 #[.int .i64 a, .int .i64 (n : Int)] w fun e w' => e = .returned (.int .i64 (a / (n : Int))) ∧ w = w' := by
  have hp : (0 : Int) < n := by omega
  have HF := Lib.hid (floor_eq (a := a) hp)
  have hb : -100000 ≤ a.tdiv (n : Int) ∧ a.tdiv (n : Int) ≤ 100000 := by
    have h1 : (a.tdiv n).natAbs ≤ a.natAbs := by rw [Int.natAbs_tdiv]; exact Nat.div_le_self _ _
    omega
  have hz : ((n : Int) == 0) = false := by rw [beq_eq_false_iff_ne]; omega
  have hz2 : ¬ ((n : Int) = 0) := by omega
  have hw1 : IntKind.i64.wrap (a.tdiv (n : Int)) = a.tdiv (n : Int) := wrap_in (by omega)
  have hw2 : IntKind.i64.wrap (a.tdiv (n : Int) - 1) = a.tdiv (n : Int) - 1 := wrap_in (by omega)
  by_cases hr : a.tmod (n : Int) < 0
  · have hrd : decide (a.tmod (n : Int) < 0) = true := decide_eq_true hr
    rw [if_pos hr] at HF
    go_enter Try.func67, Try.ntmps67
    go_wp2_with fail
    go_ret
    exact ⟨ret_int HF.out, rfl⟩
  · have hrd : decide (a.tmod (n : Int) < 0) = false := decide_eq_false hr
    rw [if_neg hr] at HF
    go_enter Try.func67, Try.ntmps67
    go_wp2_with fail
    go_ret
    exact ⟨ret_int HF.out, rfl⟩
set_option maxHeartbeats 1000000 in
theorem specMean (w : World) (lo hi : Nat) (a : Option Addr) (cap : Nat) (L : List (List Int)) (h : Lists w lo hi a L) (hv : vecsB L 4 = true) (h1 : 1 ≤ L.length) (h16 : L.length ≤ 1000) :
    Calls Try.prog 57 #[.slice a L.length cap] w (NewInts w (meanT L 4)) := by
  have HE := Lib.hid (owns_empty w w.heap.size 3 1 (Nat.le_refl _))
  have HV := Lib.hid hv
  go_enter Try.func57, Try.ntmps57
  go_wp2_with fail
  go_loopw [3, 4] (fun v i wr => ∃ j : Nat, j ≤ 4 ∧ i = .int .i64 (j : Int) ∧ Hid (wr.ownsRow w.heap.size 3 1 v j ((meanT L j).map (Value.int .i64))) ∧ Hid (Below w.heap.size w wr)) (fun _ i _ => 4 - (intOf i).toNat)
  case atStart => exact ⟨0, Nat.zero_le _, rfl, HE.out, below_alloc _ _⟩
  case round =>
    obtain ⟨j, hj, rfl, HO, HW⟩ := hrel
    by_cases hjt : j < 4
    · have hsw := HW.out.size
      rename World => wo
      go_wp2_with fail
      go_loopw [5, 6] (fun s i wr => ∃ n : Nat, n ≤ L.length ∧ i = .int .i64 (n : Int) ∧ s = .int .i64 (csum L j n) ∧ wr = wo) (fun _ i _ => L.length - (intOf i).toNat)
      case atStart => exact ⟨0, Nat.zero_le _, rfl, rfl, rfl⟩
      case round =>
        obtain ⟨n, hn, rfl, rfl, rfl⟩ := hrel
        have hb0 := csum_bd HV.out j hn
        by_cases hlt : n < L.length
        · have hls := h.below HW.out
          obtain ⟨b, off, aj, cj, rfl, _, _, hc, hx⟩ := hls.at_ hlt
          have VX := vecsB_at HV.out hlt
          have hxl := vecB_len VX
          have hxb := vecB_at VX j
          have HS := Lib.hid (csum_succ L j n)
          obtain ⟨x, ex⟩ : ∃ x, L.getD n [] = x := ⟨_, rfl⟩
          rw [ex] at hc hx hxl hxb HS
          have hx4 : x.length = 4 := by omega
          obtain ⟨b2, off2, rfl, _, _, hcx, _⟩ := hx.at_ (k := j) (by omega)
          obtain ⟨s, es⟩ : ∃ s, csum L j n = s := ⟨_, rfl⟩
          rw [es] at hb0 HS ⊢
          obtain ⟨y, ey⟩ : ∃ y, x.getD j 0 = y := ⟨_, rfl⟩
          rw [ey] at hcx hxb HS
          have hji : (j : Int) < (x.length : Int) := by omega
          have hji4 : (j : Int) < 4 := by omega
          have hw1 : IntKind.i64.wrap (s + y) = s + y := wrap_in (by omega)
          rw [hx4] at hc
          clear ex es ey VX hxl hx hls hx4 hji
          go_wp2_with fail
          go_roundw
          case rel => exact ⟨n + 1, by omega, by go_num, int_eq HS.out.symm, trivial⟩
          case measure => simp [intOf]; omega
        · have hne : n = L.length := by omega
          subst hne
          have HS := Lib.hid (meanT_snoc L j)
          have FD := Lib.hid (specFloorDiv wr (csum L j L.length) L.length h1 h16 (by omega))
          obtain ⟨q, eq⟩ : ∃ q, csum L j L.length / (L.length : Int) = q := ⟨_, rfl⟩
          rw [eq] at HS FD
          clear eq
          go_wp2_with fail
          refine FD.out.mono ?_
          rintro e w2 ⟨rfl, rfl⟩
          go_wp2_with (at_builtin; refine append1 rfl _ _ 37 rfl w.heap.size 3 Try.underlying37 infoInt rfl (by omega) (by omega) _ j ((meanT L j).map (Value.int .i64)) rfl HO.out [.int .i64 q] rfl rfl (ints_cells [q]) (by omega) (by omega) ?_; intro v' w6 hown6 hg6; have HO6 := Lib.hid hown6; have HG6 := Lib.hid hg6; clear hown6 hg6)
          go_roundw
          case rel => exact ⟨j + 1, by omega, by go_num, by rw [HS.out, List.map_append]; exact HO6.out, HW.out.grown HG6.out (by omega) (owns_block HO.out)⟩
          case measure => simp [intOf]; omega
    · have hje : j = 4 := by omega
      subst hje
      go_wp2_with fail
      go_ret
      exact NewInts.mk (meanT_length _ _) HO.out HW.out
set_option maxHeartbeats 1000000 in
theorem implMeanOf (w : World) (lo hi : Nat) (a : Option Addr) (cap : Nat) (L : List (List Int)) (h : Lists w lo hi a L) (hv : vecsB L 4 = true) (h1 : 1 ≤ L.length) (h16 : L.length ≤ 16) :
    Calls Try.prog 22 #[.slice a L.length cap] w (NewInts w (meanT L 4)) := by
  obtain ⟨i, hi0, hz, hi1, hi2⟩ := info_parts infoInt
  have HV := Lib.hid hv
  have hd1 : decide ((L.length : Int) < 1) = false := decide_eq_false (by omega)
  have hd2 : decide ((16 : Int) < (L.length : Int)) = false := decide_eq_false (by omega)
  go_enter Try.func22, Try.ntmps22
  go_wp2_with (at_make; refine wpList_make_full _ rfl _ _ 37 rfl w.heap.size 3 i (.int .i64 0) 1 Try.underlying37 hi0 hz hi1 .i64 .i64 _ _ 4 rfl rfl rfl rfl (by rw [hi2]; omega) (by unfold maxLen; omega) (Nat.le_refl _) ?_; intro w1 hown hg; have HO := Lib.hid hown; have HG := Lib.hid hg; clear hown hg)
  have HO0 : Hid (w1.ownsRow w.heap.size 3 1 (.slice (some ⟨w.heap.size, 0, none⟩) 4 4) 4 ((accT L 0 0).map (Value.int .i64))) := by
    have := HO.out
    rw [made_ints, ← accT_zero L] at this
    exact Lib.hid this
  have HB1 : Hid (Below w.heap.size w w1) := Lib.hid ((Below.refl _ _).grown HG.out (Nat.le_refl _) (fun j hj => by cases hj))
  clear HO HG hd1 hd2
  go_loopw [20] (fun i wr => ∃ n : Nat, n ≤ L.length ∧ i = .int .i64 (n : Int) ∧ Hid (wr.ownsRow w.heap.size 3 1 (.slice (some ⟨w.heap.size, 0, none⟩) 4 4) 4 ((accT L n 0).map (Value.int .i64))) ∧ Hid (Below w.heap.size w wr)) (fun i _ => L.length - (intOf i).toNat)
  case atStart => exact ⟨0, Nat.zero_le _, rfl, HO0.out, HB1.out⟩
  case round =>
    obtain ⟨n, hn, rfl, HO, HW⟩ := hrel
    by_cases hlt : n < L.length
    · rename World => wo
      obtain ⟨b, off, aj, cj, rfl, _, _, hc, hx⟩ := h.at_ hlt
      have hvx := vecsB_at HV.out hlt
      have HAS := Lib.hid (fun j => accT_step L n j)
      obtain ⟨x, ex⟩ : ∃ x, L.getD n [] = x := ⟨_, rfl⟩
      rw [ex] at hc hx hvx HAS
      have C := Lib.hid (implIsVector wo _ _ aj cj x 4 (hx.below HW.out))
      rw [hvx] at C
      have VX := Lib.hid hvx
      have hx4 : x.length = 4 := by have := vecB_len hvx; omega
      have HX4 := Lib.hid hx4
      have HX0 := Lib.hid hx
      replace hc := cell_later HW.out hc
      rw [hx4] at hc C
      have HNX := Lib.hid (accT_next L n)
      clear ex hvx hx hx4
      go_wp2_with fail
      refine C.out.mono ?_
      rintro e w2 ⟨rfl, rfl⟩
      go_wp2_with fail
      clear hc
      go_loopw [29] (fun i wr => ∃ j : Nat, j ≤ 4 ∧ i = .int .i64 (j : Int) ∧ Hid (wr.ownsRow w.heap.size 3 1 (.slice (some ⟨w.heap.size, 0, none⟩) 4 4) 4 ((accT L n j).map (Value.int .i64))) ∧ Hid (Below w.heap.size w wr)) (fun i _ => 4 - (intOf i).toNat)
      case atStart => exact ⟨0, Nat.zero_le _, rfl, HO.out, HW.out⟩
      case round =>
        obtain ⟨j, hj, rfl, HP, HY⟩ := hrel
        by_cases hjt : j < 4
        · have hx2 := HX0.out.below HY.out
          obtain ⟨b2, off2, rfl, _, _, hcx, _⟩ := hx2.at_ (k := j) (by rw [HX4.out]; exact hjt)
          have hcell := HP.out.cellAt j (by omega)
          rw [ints_at (by rw [accT_length]; exact hjt), accT_get hjt] at hcell
          have hf := HP.out.frozenAt j
          have hb0 := csum_bd HV.out j hn
          have hxb := vecB_at VX.out j
          have HS := Lib.hid (HAS.out j)
          obtain ⟨s, es⟩ : ∃ s, csum L j n = s := ⟨_, rfl⟩
          obtain ⟨y, ey⟩ : ∃ y, x.getD j 0 = y := ⟨_, rfl⟩
          rw [es] at hb0 HS hcell
          rw [ey] at hcx hxb HS
          have hji4 : (j : Int) < 4 := by omega
          have hw1 : IntKind.i64.wrap (s + y) = s + y := wrap_in (by omega)
          clear es ey hx2
          go_wp2_with fail
          have HO2 := HP.out.stored j (.int .i64 (s + y))
          go_roundw
          case rel => exact ⟨j + 1, by omega, by go_num, by rw [HS.out, List.map_set]; exact HO2.1, HY.out.grown HO2.2 HY.out.size (fun k hk => by cases hk; exact Nat.le_refl _)⟩
          case measure => simp [intOf]; omega
        · have hje : j = 4 := by omega
          subst hje
          go_wp2_with fail
          go_roundw
          case rel => exact ⟨n + 1, by omega, by go_num, by rw [← HNX.out]; exact HP.out, HY.out⟩
          case measure => simp [intOf]; omega
    · have hne : n = L.length := by omega
      subst hne
      have HO3 : Hid (wr.ownsRow w.heap.size 3 1 (.slice (some ⟨w.heap.size, 0, none⟩) 4 4) 4 ((divT L 0).map (Value.int .i64))) := Lib.hid (by rw [divT_zero]; exact HO.out)
      clear HO
      rename World => wo
      go_wp2_with fail
      go_loopw [45] (fun i wr => ∃ j : Nat, j ≤ 4 ∧ i = .int .i64 (j : Int) ∧ Hid (wr.ownsRow w.heap.size 3 1 (.slice (some ⟨w.heap.size, 0, none⟩) 4 4) 4 ((divT L j).map (Value.int .i64))) ∧ Hid (Below w.heap.size w wr)) (fun i _ => 4 - (intOf i).toNat)
      case atStart => exact ⟨0, Nat.zero_le _, rfl, HO3.out, HW.out⟩
      case round =>
        obtain ⟨j, hj, rfl, HP, HY⟩ := hrel
        by_cases hjt : j < 4
        · have hcell := HP.out.cellAt j (by omega)
          rw [ints_at (by rw [divT_length]; exact hjt), divT_get hjt] at hcell
          have hf := HP.out.frozenAt j
          have hb0 := csum_bd HV.out j (Nat.le_refl L.length)
          have HS := Lib.hid (divT_step L j)
          have FD := Lib.hid (implFloorDiv wr (csum L j L.length) L.length h1 (by omega) (by omega))
          obtain ⟨q, eq⟩ : ∃ q, csum L j L.length / (L.length : Int) = q := ⟨_, rfl⟩
          rw [eq] at HS FD
          have hji4 : (j : Int) < 4 := by omega
          clear eq
          go_wp2_with fail
          refine FD.out.mono ?_
          rintro e w2 ⟨rfl, rfl⟩
          go_wp2_with fail
          have HO2 := HP.out.stored j (.int .i64 q)
          go_roundw
          case rel => exact ⟨j + 1, by omega, by go_num, by rw [HS.out, List.map_set]; exact HO2.1, HY.out.grown HO2.2 HY.out.size (fun k hk => by cases hk; exact Nat.le_refl _)⟩
          case measure => simp [intOf]; omega
        · have hje : j = 4 := by omega
          subst hje
          go_wp2_with fail
          go_ret
          have ho := HP.out
          rw [divT_all] at ho
          exact NewInts.mk (meanT_length _ _) ho HY.out
end Go.Proofs.Ytfgjmfnbpbanmaa
