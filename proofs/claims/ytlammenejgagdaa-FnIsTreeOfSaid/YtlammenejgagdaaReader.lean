/-
  The reference's source of numbers: newReader and pick. Of what pick returns it is said only that it lies in 0 .. n-1 (0 where n is below 1).
-/
import Derived.Test.YtlammenejgagdaaBase
import Derived.Test.YtlammenejgagdaaOwn
import Derived.Deep.QuietTactic
import Derived.BigQuiet
import Derived.IntWalk
namespace Go.Proofs.Ytlammenejgagdaa
open Go.RowKit
set_option linter.unusedVariables false

/-- Block B holds a reader over n bytes f that has been asked q times. -/
def RdAt (w : World) (B : Nat) (a : Option Addr) (n cap q : Nat) (f : Nat → Int) : Prop :=
  w.heap[B]? = some (.cells #[.slice a n cap, .int .i64 (q : Int)] 65 (0, 0)) ∧ n ≤ 2000 ∧
  (0 < n → ∃ b off, a = some ⟨b, off, none⟩ ∧ b < B ∧ ∀ j, j < n → w.cell? ⟨b, off + j, none⟩ = some (.int .u8 (f j)) ∧ 0 ≤ f j ∧ f j ≤ 255)
/-- Block B holds a reader that has been asked at most c times. -/
def Reader (w : World) (B c : Nat) : Prop := ∃ (a : Option Addr) (n cap q : Nat) (f : Nat → Int), RdAt w B a n cap q f ∧ q ≤ c

def PickPost (w : World) (B c : Nat) (n : Int) (e : Ending) (w' : World) : Prop :=
  ∃ m : Int, e = .returned (.int .i64 m) ∧ 0 ≤ m ∧ (m < n ∨ m = 0) ∧ Reader w' B (c + 1) ∧ Upd B (B + 1) w w' ∧ w'.heap.size = w.heap.size

theorem Reader.lt {w : World} {B c : Nat} (h : Reader w B c) : B < w.heap.size := by
  obtain ⟨a, n, cap, q, f, hb, _⟩ := h
  exact (Array.getElem?_eq_some_iff.1 hb.1).1

theorem Reader.mono {w : World} {B c c' : Nat} (h : Reader w B c) (hc : c ≤ c') : Reader w B c' := by
  obtain ⟨a, n, cap, q, f, hb, hq⟩ := h
  exact ⟨a, n, cap, q, f, hb, by omega⟩
theorem Reader.keep {w w' : World} {B c : Nat} (h : Reader w B c) (u : Below (B + 1) w w') : Reader w' B c := by
  obtain ⟨a, n, cap, q, f, ⟨hb, hn, hz⟩, hq⟩ := h
  refine ⟨a, n, cap, q, f, ⟨?_, hn, fun h0 => ?_⟩, hq⟩
  · rw [u.block B (by omega)]; exact hb
  · obtain ⟨b, off, ha, hlt, hj⟩ := hz h0
    refine ⟨b, off, ha, hlt, fun j hjn => ⟨?_, (hj j hjn).2⟩⟩
    rw [u.cell (p := ⟨b, off + j, none⟩) (by show b < B + 1; omega)]
    exact (hj j hjn).1
theorem Reader.upd {w w' : World} {B c lo hi : Nat} (h : Reader w B c) (u : Upd lo hi w w') (hd : B < lo ∨ hi ≤ lo) : Reader w' B c :=
  h.keep ⟨u.os, u.tape, u.output, u.size, fun k hk => u.block k (by have := h.lt; omega) (by omega)⟩
theorem Reader.grown {w w' : World} {B c : Nat} {row : Option Nat} (h : Reader w B c) (hg : w.grownBy w' row) (hr : ∀ k, row = some k → B < k) : Reader w' B c :=
  h.keep ((Below.refl (B + 1) w).grown hg (by have := h.lt; omega) (fun k hk => hr k hk))
theorem cells2_0 {w : World} {B : Nat} {x y : Value} {t : TypeId} (h : w.heap[B]? = some (.cells #[x, y] t (0, 0))) : w.cell? ⟨B, 0, none⟩ = some x := by simp [World.cell?, h]
theorem cells2_1 {w : World} {B : Nat} {x y : Value} {t : TypeId} (h : w.heap[B]? = some (.cells #[x, y] t (0, 0))) : w.cell? ⟨B, 1, none⟩ = some y := by simp [World.cell?, h]
theorem cells2_f {w : World} {B : Nat} {x y : Value} {t : TypeId} (h : w.heap[B]? = some (.cells #[x, y] t (0, 0))) (o : Nat) : w.frozen? ⟨B, o, none⟩ = false := by simp [World.frozen?, h]
theorem cells2_set {w : World} {B : Nat} {x y u : Value} {t : TypeId} (h : w.heap[B]? = some (.cells #[x, y] t (0, 0))) :
    (w.setCell ⟨B, 1, none⟩ u).heap[B]? = some (.cells #[x, u] t (0, 0)) := by
  simp [World.setCell, Array.getElem?_modify, h]

theorem RdAt.next {w : World} {B c : Nat} {a : Option Addr} {n cap q : Nat} {f : Nat → Int} (h : RdAt w B a n cap q f) (hq : q ≤ c) (k : Nat) {u : Value} (hu : u = .int .i64 ((q : Int) + 1)) :
    Reader ((w.setCell ⟨B, 1, none⟩ u).drewN k) B (c + 1) := by
  subst hu
  refine ⟨a, n, cap, q + 1, f, ⟨?_, h.2.1, fun hi => ?_⟩, by omega⟩
  · show (w.setCell ⟨B, 1, none⟩ (.int .i64 ((q : Int) + 1))).heap[B]? = _
    rw [cells2_set h.1]
    rfl
  · obtain ⟨b, off, ha, hne, hj⟩ := h.2.2 hi
    refine ⟨b, off, ha, hne, fun j hjn => ⟨?_, (hj j hjn).2⟩⟩
    exact (Upd.setCell (lo := B) (hi := B + 1) w ⟨B, 1, none⟩ _ (Nat.le_refl _) (by show B < B + 1; omega)).cell (hj j hjn).1 (by show b < B ∨ B + 1 ≤ b; omega)

theorem pick_end {w : World} {B c : Nat} {a : Option Addr} {l cap q : Nat} {f : Nat → Int} {n : Int} (h : RdAt w B a l cap q f) (hq : q ≤ c) (k : Nat) (m : Int) (h0 : 0 ≤ m) (h1 : m < n ∨ m = 0) :
    PickPost w B c n (.returned (.int .i64 m)) ((w.setCell ⟨B, 1, none⟩ (.int .i64 ((q : Int) + 1))).drewN k) :=
  ⟨m, rfl, h0, h1, h.next hq k rfl, (Upd.setCell (lo := B) (hi := B + 1) w ⟨B, 1, none⟩ _ (Nat.le_refl _) (by show B < B + 1; omega)).trans (Upd.drewN _ _), by simp [World.setCell, World.drewN]⟩

theorem xor_nonneg (a : Int) (h0 : 0 ≤ a) (h1 : a < 4611686018427387904) : 0 ≤ bits BinOp.xor IntKind.i64 a (a / 64) := by
  obtain ⟨n, rfl⟩ : ∃ n : Nat, a = (n : Int) := ⟨a.toNat, by omega⟩
  have hb : ((n : Int) / 64) = ((n / 64 : Nat) : Int) := by omega
  rw [hb]
  have k1 : n < 2 ^ 62 := by omega
  have k2 : n / 64 < 2 ^ 62 := by omega
  have k3 := Nat.xor_lt_two_pow k1 k2
  have k4 : n % 2 ^ 64 = n := Nat.mod_eq_of_lt (by omega)
  have k5 : n / 64 % 2 ^ 64 = n / 64 := Nat.mod_eq_of_lt (by omega)
  have k6 : (BitVec.ofNat 64 n ^^^ BitVec.ofNat 64 (n / 64)).toNat = n ^^^ n / 64 := by rw [BitVec.toNat_xor, BitVec.toNat_ofNat, BitVec.toNat_ofNat, k4, k5]
  have k7 : bits BinOp.xor IntKind.i64 (n : Int) ((n / 64 : Nat) : Int) = IntKind.i64.wrap ((n ^^^ n / 64 : Nat) : Int) := by
    rw [← k6]; rfl
  rw [k7, IntKind.wrap_i64]
  omega

set_option maxHeartbeats 1000000 in
theorem pick_any (w : World) (B c : Nat) (n : Int) (h : Reader w B c) (hc : c ≤ 1099511627776) (hn : -9223372036854775808 ≤ n) (hn' : n ≤ 9223372036854775807) :
    Calls Try.prog 25 #[.pointer (some ⟨B, 0, none⟩), .int .i64 n] w (PickPost w B c n) := by
  obtain ⟨a, l, cap, q, f, hr, hq⟩ := h
  have c0 := cells2_0 hr.1
  have c1 := cells2_1 hr.1
  have f1 := cells2_f hr.1 1
  have hl := hr.2.1
  have HR := Lib.hid hr
  clear hr
  by_cases n1 : n < 1
  · go_enter Try.func25, Try.ntmps25
    go_wp2
    go_ret
    exact pick_end HR.out hq 0 0 (by omega) (.inr rfl)
  · by_cases l0 : l = 0
    · subst l0
      go_enter Try.func25, Try.ntmps25
      go_wp2
      go_ret
      exact pick_end HR.out hq 0 0 (by omega) (.inr rfl)
    · obtain ⟨b, off, rfl, hne, hj⟩ := HR.out.2.2 (by omega)
      by_cases ql : q < l
      · have hjq := hj q ql
        have HJ := Lib.hid hj
        clear hj
        go_enter Try.func25, Try.ntmps25
        go_wp2
        go_ret
        have h2 := Int.emod_nonneg (f q) (show n ≠ 0 by omega)
        have h3 := Int.emod_lt_of_pos (f q) (show 0 < n by omega)
        exact pick_end HR.out hq 0 _ h2 (.inl h3)
      · have m1 : q % l < l := Nat.mod_lt _ (by omega)
        have m2 : (q * 7 + 3) % l < l := Nat.mod_lt _ (by omega)
        have j1 := hj _ m1
        have j2 := hj _ m2
        have HJ := Lib.hid hj
        clear hj
        obtain ⟨g, hg⟩ : ∃ g, f (q % l) = g := ⟨_, rfl⟩
        obtain ⟨g', hg'⟩ : ∃ g, f ((q * 7 + 3) % l) = g := ⟨_, rfl⟩
        rw [hg] at j1
        rw [hg'] at j2
        clear hg hg' HJ
        have d1 : 0 ≤ (q : Int) / (l : Int) := Int.ediv_nonneg (by omega) (by omega)
        have d2 : (q : Int) / (l : Int) ≤ q := Int.ediv_le_self _ (by omega)
        have e1 : IntKind.i64.wrap ((q : Int) * 7) = (q : Int) * 7 := IntWalk.i64_in _ (by omega)
        have e2 : IntKind.i64.wrap ((q : Int) * 7 + 3) = (q : Int) * 7 + 3 := IntWalk.i64_in _ (by omega)
        have e3 : IntKind.i64.wrap (g * 131) = g * 131 := IntWalk.i64_in _ (by omega)
        have e4 : IntKind.i64.wrap (g' * 1117) = g' * 1117 := IntWalk.i64_in _ (by omega)
        have e5 : IntKind.i64.wrap (g * 131 + g' * 1117) = g * 131 + g' * 1117 := IntWalk.i64_in _ (by omega)
        have e6 : IntKind.i64.wrap ((q : Int) * 29) = (q : Int) * 29 := IntWalk.i64_in _ (by omega)
        have e7 : IntKind.i64.wrap (g * 131 + g' * 1117 + (q : Int) * 29) = g * 131 + g' * 1117 + (q : Int) * 29 := IntWalk.i64_in _ (by omega)
        have e8 : IntKind.i64.wrap ((q : Int) / (l : Int) * 53) = (q : Int) / (l : Int) * 53 := IntWalk.i64_in _ (by omega)
        have e9 : IntKind.i64.wrap (g * 131 + g' * 1117 + (q : Int) * 29 + (q : Int) / (l : Int) * 53) = g * 131 + g' * 1117 + (q : Int) * 29 + (q : Int) / (l : Int) * 53 := IntWalk.i64_in _ (by omega)
        have l1 : 0 < (l : Int) := by omega
        have r1 : 0 ≤ ((q : Int) * 7 + 3) % (l : Int) := Int.emod_nonneg _ (by omega)
        have r2 : ((q : Int) * 7 + 3) % (l : Int) < l := Int.emod_lt_of_pos _ l1
        have r3 : (((q : Int) * 7 + 3) % (l : Int)).toNat = (q * 7 + 3) % l := by
          have h : ((q : Int) * 7 + 3) % (l : Int) = (((q * 7 + 3) % l : Nat) : Int) := by simp
          rw [h]; exact Int.toNat_natCast _
        go_enter Try.func25, Try.ntmps25
        go_wp2
        go_quiet (fail)
        clear e1 e2 e3 e4 e5 e6 e7 e8 e9
        have x0 : 0 ≤ g * 131 + g' * 1117 + (q : Int) * 29 + (q : Int) / (l : Int) * 53 := by omega
        have x1 := xor_nonneg _ x0 (by omega)
        go_wp2
        go_ret
        exact pick_end HR.out hq _ _ (Int.emod_nonneg _ (by omega)) (.inl (Int.emod_lt_of_pos _ (by omega)))
/-- What the code's bytes look like: a nil slice, or one that leads to cells. -/
def IsRow (k : IntKind) (w : World) (a : Option Addr) (len cap : Nat) (zs : List Int) : Prop :=
  (a = none ∧ len = 0 ∧ cap = 0 ∧ zs = []) ∨
  ∃ x, a = some x ∧ len ≤ cap ∧ cap ≤ maxLen ∧ zs.length = cap ∧ (∀ i, i < zs.length → w.cell? (x.add i) = some (.int k (zs.getD i 0))) ∧ ∀ n ∈ zs, (Lit.int k n).wf = true

/-- What newReader is handed. -/
def Bytes (w : World) (a : Option Addr) (n cap : Nat) (f : Nat → Int) : Prop :=
  n ≤ 1048576 ∧ n ≤ cap ∧ cap ≤ 9223372036854775807 ∧ (0 < n → ∃ b off, a = some ⟨b, off, none⟩ ∧ ∀ j, j < n → w.cell? ⟨b, off + j, none⟩ = some (.int .u8 (f j)) ∧ 0 ≤ f j ∧ f j ≤ 255)

theorem bytes_of_row {w : World} {a : Option Addr} {len cap : Nat} {zs : List Int} (h : IsRow .u8 w a len cap zs) (hl : len ≤ 1048576) : Bytes w a len cap (fun j => zs.getD j 0) := by
  rcases h with ⟨rfl, rfl, rfl, rfl⟩ | ⟨⟨b, off, spot⟩, rfl, h1, h2, h3, h4, h5⟩
  · exact ⟨by omega, by omega, by omega, fun h => by omega⟩
  · unfold maxLen at h2
    refine ⟨hl, h1, h2, fun h => ⟨b, off, ?_, fun j hj => ?_⟩⟩
    · have hs : spot = none := by simpa [Addr.add] using World.cell?_spot (h4 0 (by omega))
      rw [hs]
    · have hc := h4 j (by omega)
      have hs : spot = none := by simpa [Addr.add] using World.cell?_spot (h4 0 (by omega))
      subst hs
      rw [add_none] at hc
      refine ⟨hc, ?_⟩
      have hm : zs.getD j 0 ∈ zs := by
        rw [List.getD_eq_getElem?_getD, List.getElem?_eq_getElem (by omega)]
        exact List.getElem_mem _
      have := h5 _ hm
      simpa [Lit.wf, IntKind.min, IntKind.max, IntKind.signed, IntKind.bits] using this

def NewReaderPost (w : World) (e : Ending) (w' : World) : Prop :=
  e = .returned (.pointer (some ⟨w.heap.size, 0, none⟩)) ∧ Reader w' w.heap.size 0 ∧ Below w.heap.size w w' ∧ w'.heap.size = w.heap.size + 1

theorem newReader_end {w : World} {a : Option Addr} {n m cap cap' : Nat} {f : Nat → Int} (h : Bytes w a n cap f) (hm : m ≤ n) (hm2 : m ≤ 2000) :
    NewReaderPost w (.returned (.pointer (some ⟨w.heap.size, 0, none⟩))) (w.alloc (.cells #[.slice a m cap', .int .i64 0] 65)) := by
  refine ⟨rfl, ⟨a, m, cap', 0, f, ⟨heap_alloc_new w _, hm2, fun h0 => ?_⟩, by omega⟩, (Below.refl _ _).alloc (Nat.le_refl _) _, by simp⟩
  obtain ⟨b, off, ha, hj⟩ := h.2.2.2 (by omega)
  have hlt := World.block_lt_of_cell? w _ (hj 0 (by omega)).1
  refine ⟨b, off, ha, by simpa using hlt, fun j hjm => ⟨?_, (hj j (by omega)).2⟩⟩
  exact (Upd.alloc (lo := 0) (hi := 0) w _).cell (hj j (by omega)).1 (by omega)

set_option maxHeartbeats 400000 in
theorem newReader_any (w : World) (a : Option Addr) (n cap : Nat) (f : Nat → Int) (h : Bytes w a n cap f) :
    Calls Try.prog 22 #[.slice a n cap] w (NewReaderPost w) := by
  have hn := h.1
  have hnc := h.2.1
  have hcm := h.2.2.1
  have H := Lib.hid h
  clear h
  by_cases h2 : 2000 < n
  · go_enter Try.func22, Try.ntmps22
    go_wp2
    go_ret
    exact newReader_end H.out (by omega) (by omega)
  · go_enter Try.func22, Try.ntmps22
    go_wp2
    go_ret
    exact newReader_end H.out (by omega) (by omega)
end Go.Proofs.Ytlammenejgagdaa
