/-
  The item that a key stands for, and whether a number is in a list.
-/
import Derived.Test.YtllahaebfhaobaaItemOwn
import Derived.Test.YtllahaebfhaobaaDistWalks
namespace Go.Proofs.Ytllahaebfhaobaa
open Go.RowKit
set_option linter.unusedVariables false

/-- the vector of an item -/
theorem run_at (w : World) (k t : Int) (a : Option Addr) (n c : Nat) : Sem.run Try.prog (Instr.field 34 (.agg #[.int .i64 k, .slice a n c, .int .i64 t]) 1) w = .ok (.slice a n c) w := by kernel_rfl
def ItemPost (w : World) (lo hi : Nat) (x : It) (e : Ending) (w' : World) : Prop :=
  ∃ a c, e = .returned (.agg #[.int .i64 x.key, .slice a x.pos.length c, .int .i64 x.tags]) ∧ Ints w lo hi a x.pos ∧ Below w.heap.size w w'
set_option maxHeartbeats 1000000 in
theorem itemOf_any (w : World) (lo hi : Nat) (b : Option Addr) (cap j : Nat) (ll : List It) (x : It) (hI : Items w lo hi b ll) (hs : storeB ll = true) (hj : j < ll.length) (hxx : ll.getD j It.no = x) :
    Calls Try.prog 32 #[.slice b ll.length cap, .int .i64 x.key] w (ItemPost w lo hi x) := by
  have HXX := Lib.hid hxx
  clear hxx
  have HZ := Lib.hid (heap_alloc_new w (.cells #[.int .i64 0, .slice none 0 0, .int .i64 0] 34))
  have hW := below_alloc w (.cells #[.int .i64 0, .slice none 0 0, .int .i64 0] 34)
  have hI0 := Lib.hid hI
  replace hI := hI.below hW
  have HW := Lib.hid hW
  have HS := Lib.hid hs
  have hl16 := storeB_len hs
  have hsz : w.heap.size < (w.alloc (.cells #[.int .i64 0, .slice none 0 0, .int .i64 0] 34)).heap.size := by simp
  clear hs hW
  go_enter Try.func32, Try.ntmps32
  go_wp2_with fail
  obtain ⟨W1, hW1⟩ : ∃ W1, w.alloc (.cells #[.int .i64 0, .slice none 0 0, .int .i64 0] 34) = W1 := ⟨_, rfl⟩
  rw [hW1] at HZ HW hI hsz ⊢
  clear hW1
  go_loop [5] (fun i => ∃ k : Nat, k ≤ j ∧ i = .int .i64 (k : Int)) (fun i => ll.length - (intOf i).toNat)
  case atStart => exact ⟨0, Nat.zero_le _, rfl⟩
  case round =>
    obtain ⟨k, hkj, rfl⟩ := hrel
    have hlt : k < ll.length := by omega
    obtain ⟨bb, off, rfl, hb1, hbh, aj, cj, c0, c1, c2, hx, hcj, hk1, hk2⟩ := hI.at_ hlt
    have hki : (k : Int) < ll.length := by omega
    by_cases hkj2 : k = j
    · subst hkj2
      have ex := HXX.out
      rw [ex] at c0 c1 c2 hx hcj
      have hx0 : Ints w lo hi aj x.pos := by
        obtain ⟨bb', off', he, _, _, aj', cj', d0, d1, d2, hx', _⟩ := hI0.out.at_ hlt
        simp only [Option.some.injEq, Addr.mk.injEq] at he
        obtain ⟨rfl, rfl, _⟩ := he
        have := cell_later HW.out d1
        rw [c1] at this
        simp only [Option.some.injEq, Value.slice.injEq] at this
        obtain ⟨rfl, _, rfl⟩ := this
        rw [ex] at hx'
        exact hx'
      have HX0 := Lib.hid hx0
      have hkk : (x.key == x.key) = true := beq_self_eq_true _
      have z0 := cells3_0 HZ.out
      have z1 := cells3_1 HZ.out
      have z2 := cells3_2 HZ.out
      have zf := cells3_f HZ.out
      clear ex hx0 hx
      go_wp2_with fail
      obtain ⟨s0, s1, s2⟩ := store3c HZ.out (.int .i64 x.key) (.slice aj x.pos.length cj) (.int .i64 x.tags)
      (try simp only [Exit.inBlock, Exit.then])
      refine bodyPost_ret (v := .agg #[.int .i64 x.key, .slice aj x.pos.length cj, .int .i64 x.tags]) (by simp [results, Try.results32, go_sem, s0, s1, s2]) rfl ?_
      have u := upd_store3 W1 w.heap.size (.int .i64 x.key) (.slice aj x.pos.length cj) (.int .i64 x.tags)
      have hb := HW.out
      exact ⟨aj, cj, rfl, HX0.out, ⟨u.os.trans hb.os, u.tape.trans hb.tape, u.output.trans hb.output, Nat.le_trans hb.size u.size, fun q hq => by rw [u.block q (by omega) (by omega)]; exact hb.block q hq⟩⟩
    · have hasc := storeB_asc HS.out j hj k (by omega)
      rw [HXX.out] at hasc
      have hkk : ((ll.getD k It.no).key == x.key) = false := by rw [beq_eq_false_iff_ne]; omega
      obtain ⟨y, ex⟩ : ∃ y, ll.getD k It.no = y := ⟨_, rfl⟩
      rw [ex] at c0 c1 c2 hkk
      clear ex hasc
      go_wp2_with fail
      go_round
      case rel => exact ⟨k + 1, by omega, by go_num⟩
      case measure => simp [intOf]; omega
end Go.Proofs.Ytllahaebfhaobaa
