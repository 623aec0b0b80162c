/-
  Package law: widePathOf, the short ways.
-/
import Derived.Test.YgcsanPlainE
namespace Go.Proofs.Ygcsan
open Go.RowKit
set_option linter.unusedSimpArgs false
set_option linter.unusedVariables false

theorem digs_room (X k : Nat) (h : X < W64 ^ k) : (digs X).length ≤ 8 * k := by
  refine (digs_length_le X (8 * k)).2 ?_
  rw [show W64 = 256 ^ 8 from rfl, ← Nat.pow_mul] at h
  exact h

set_option maxRecDepth 10000 in
set_option maxHeartbeats 4000000 in
theorem path_none (vx vy : Value) (X M : Nat) (w : World) (hx : Sl w .u8 vx (digs X)) (hy : Sl w .u8 vy (digs M)) (hX : X < W64 ^ 16) (hM : M < W64 ^ 8) (h0 : nlim M = 0 ∨ nlim X < nlim M) :
    Calls Sang.prog 39 #[vx, vy] w fun e w' => e = .returned (.agg (ints .u8 [0, 0, 0])) ∧ Fr w.heap.size no w w' := by
  obtain ⟨ax, cx, rfl, -, -, -⟩ := hx
  obtain ⟨ay, cy, rfl, -, -, -⟩ := hy
  have bx := digs_room X 16 hX
  have bm := digs_room M 8 hM
  unfold nlim at h0
  generalize (digs X).length = lx at *
  generalize (digs M).length = lm at *
  clear hX hM
  obtain ⟨t, ht⟩ : ∃ t, t = (lx + 7) / 8 := ⟨_, rfl⟩
  obtain ⟨n, hn⟩ : ∃ n, n = (lm + 7) / 8 := ⟨_, rfl⟩
  have et : ((lx : Int) + 7) / 8 = (t : Int) := by omega
  have en : ((lm : Int) + 7) / 8 = (n : Int) := by omega
  rw [← ht, ← hn] at h0
  clear ht hn
  have HI : Hid (IB ((w.alloc (.cells #[.int .u8 0, .int .u8 0, .int .u8 0] 41)).alloc (.cells #[.int .u8 0, .int .u8 0, .int .u8 0] 41)) w.heap.size .u8 41 [0, 0, 0]) := by
    refine IB.alloc (IB.newAt ?_ ?_) _
    · rfl
    · rfl
  have HFr : Hid (Fr w.heap.size no w ((w.alloc (.cells #[.int .u8 0, .int .u8 0, .int .u8 0] 41)).alloc (.cells #[.int .u8 0, .int .u8 0, .int .u8 0] 41))) := ((Fr.refl _ _ _).alloc (Nat.le_refl _) _).alloc (by simp) _
  rcases Nat.eq_zero_or_pos n with h | h
  · subst h
    go_enter Sang.func39, Sang.ntmps39
    go_wp2
    exact bodyPost_ret (results_cell Sang.results39 rfl HI.out _ Sang.underlying41 rfl siz41) rfl ⟨rfl, HFr.out⟩
  · have hn0 : ((n : Int) == 0) = false := by simp; omega
    have hlt : (t : Int) < (n : Int) := by omega
    clear h0
    go_enter Sang.func39, Sang.ntmps39
    go_wp2
    exact bodyPost_ret (results_cell Sang.results39 rfl HI.out _ Sang.underlying41 rfl siz41) rfl ⟨rfl, HFr.out⟩

set_option maxRecDepth 10000 in
set_option maxHeartbeats 4000000 in
theorem path_one (vx vy : Value) (X M : Nat) (w : World) (hx : Sl w .u8 vx (digs X)) (hy : Sl w .u8 vy (digs M)) (hX : X < W64 ^ 16) (hM : M < W64 ^ 8) (h1 : nlim M = 1) (h2 : 1 ≤ nlim X) :
    Calls Sang.prog 39 #[vx, vy] w fun e w' => e = .returned (.agg (ints .u8 [nlim X, 0, 0])) ∧ Fr w.heap.size no w w' := by
  obtain ⟨ax, cx, rfl, -, -, -⟩ := hx
  obtain ⟨ay, cy, rfl, -, -, -⟩ := hy
  have bx := digs_room X 16 hX
  have bm := digs_room M 8 hM
  unfold nlim at h1 h2 ⊢
  generalize (digs X).length = lx at *
  generalize (digs M).length = lm at *
  clear hX hM
  obtain ⟨t, ht⟩ : ∃ t, t = (lx + 7) / 8 := ⟨_, rfl⟩
  have et : ((lx : Int) + 7) / 8 = (t : Int) := by omega
  have en : ((lm : Int) + 7) / 8 = 1 := by omega
  rw [← ht] at h2 ⊢
  have ht16 : t ≤ 16 := by omega
  clear ht h1
  have HI : Hid (IB ((w.alloc (.cells #[.int .u8 (t : Int), .int .u8 0, .int .u8 0] 41)).alloc (.cells #[.int .u8 (t : Int), .int .u8 0, .int .u8 0] 41)) w.heap.size .u8 41 [t, 0, 0]) := by
    refine IB.alloc (IB.newAt ?_ ?_) _
    · rfl
    · rfl
  have HFr : Hid (Fr w.heap.size no w ((w.alloc (.cells #[.int .u8 (t : Int), .int .u8 0, .int .u8 0] 41)).alloc (.cells #[.int .u8 (t : Int), .int .u8 0, .int .u8 0] 41))) := ((Fr.refl _ _ _).alloc (Nat.le_refl _) _).alloc (by simp) _
  have e1 : (t : Int) - 1 + 1 = (t : Int) := by omega
  have e2 : IntKind.u8.wrap (t : Int) = (t : Int) := by rw [IntKind.wrap_u8]; omega
  have e3 : ¬ (t : Int) < 1 := by omega
  go_enter Sang.func39, Sang.ntmps39
  go_wp2
  exact bodyPost_ret (results_cell Sang.results39 rfl HI.out _ Sang.underlying41 rfl siz41) rfl ⟨rfl, HFr.out⟩
end Go.Proofs.Ygcsan
