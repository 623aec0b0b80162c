/-
  The remainder, and small laws.
-/
import Derived.Test.YgcsanGreatNatD
import Derived.Test.YgcsanGreatPlainF
import Derived.Test.YgcsanGreatAdd
namespace Go.Proofs.YgcsanGreat
open Go.RowKit
set_option linter.unusedSimpArgs false
set_option linter.unusedVariables false

theorem digs_room (X k : Nat) (h : X < W64 ^ k) : (digs X).length ≤ 8 * k := by
  refine (digs_length_le X (8 * k)).2 ?_
  rw [show W64 = 256 ^ 8 from rfl, ← Nat.pow_mul] at h
  exact h

theorem val_drop {B : Nat} {l : List Nat} (h : Dg B l) (hB : 0 < B) (k : Nat) : val B (l.drop k) = val B l / B ^ k := by
  by_cases hk : k ≤ l.length
  · have h1 := val_split B l k hk
    have h2 := val_lt (h.take k)
    rw [show (l.take k).length = k by simp; omega] at h2
    rw [h1, Nat.add_mul_div_left _ _ (Nat.pow_pos hB), Nat.div_eq_of_lt h2, Nat.zero_add]
  · have h1 := val_lt h
    have h2 : B ^ l.length ≤ B ^ k := Nat.pow_le_pow_right hB (by omega)
    rw [List.drop_of_length_le (by omega), Nat.div_eq_of_lt (by omega)]
    rfl

theorem divMod_all (vx vy : Value) (X M : Nat) (w : World) (hx : Sl w .u8 vx (digs X)) (hy : Sl w .u8 vy (digs M)) (hX : X < W64 ^ 16) (hM : M < W64 ^ 8) :
    Calls Sang.prog 142 #[vx, vy] w fun e w' => ∃ vq vr ok, e = .returned (.tuple #[vq, vr, .bool ok]) ∧ Sl w' .u8 vr (digs (remF X M)) ∧ Fr w.heap.size no w w' := by
  by_cases h0 : M = 0
  · refine (divMod_zero vx vy (digs X) (digs M) w hx (digs_dg _) hy (digs_dg _) (by rw [val_digs, h0])).mono ?_
    rintro e w' ⟨rfl, rfl⟩
    refine ⟨_, _, _, rfl, ?_, Fr.refl _ _ _⟩
    have : remF X M = 0 := by unfold remF; exact if_pos h0
    rw [this, digs_zero]
    exact Sl.nil _ _
  · have b1 := digs_room X 16 hX
    have b2 := digs_room M 8 hM
    refine (divMod_any vx vy (digs X) (digs M) w hx (digs_dg _) hy (digs_dg _) (by omega) (by omega) (by rw [val_digs]; exact h0)).mono ?_
    rintro e w' ⟨vq, vr, rfl, -, hr, hf⟩
    rw [val_digs, val_digs] at hr
    have : remF X M = X % M := by unfold remF; exact if_neg h0
    exact ⟨vq, vr, true, rfl, by rw [this]; exact hr, hf⟩

theorem remF_lt (X M : Nat) (hM : M < W64 ^ 8) : remF X M < W64 ^ 8 := by
  unfold remF
  split
  · exact Nat.pow_pos W64_pos
  · exact Nat.lt_trans (Nat.mod_lt _ (by omega)) hM

theorem shlOr (x c : Nat) (hx : x * 256 < W64) (hc : c < 256) : bits .or .u64 (IntKind.u64.wrap ((x : Int) * 256)) (IntKind.u64.wrap (c : Int)) = ((x * 256 + c : Nat) : Int) := by
  rw [W64_eq] at hx
  rw [IntKind.wrap_u64, IntKind.wrap_u64]
  have e1 : ((x : Int) * 256) % 18446744073709551616 = ((x * 256 : Nat) : Int) := by omega
  have e2 : (c : Int) % 18446744073709551616 = ((c : Nat) : Int) := by omega
  rw [e1, e2, u64_or_nat _ _ (by omega) (by omega), nat_join 8 _ _ (by omega) hc]

end Go.Proofs.YgcsanGreat
