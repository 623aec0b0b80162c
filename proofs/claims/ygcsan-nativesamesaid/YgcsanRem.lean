/-
  Package u256: Rem1024, whatever it is handed.
-/
import Derived.Test.YgcsanRemA
import Derived.Test.YgcsanRemB
import Derived.Test.YgcsanRemC
import Derived.Test.YgcsanRemD
import Derived.Test.YgcsanPlainE
namespace Go.Proofs.Ygcsan
open Go.RowKit
set_option linter.unusedSimpArgs false
set_option linter.unusedVariables false

theorem nlim_lc {L : List Nat} {k : Nat} (dL : Dg W64 L) (lL : L.length = k) : lcF L k = nlim (val W64 L) := Nl_unique (Nl_lc dL lL) (Nl_digs _)

theorem one_row (r : Nat) (h : r < W64) : (List.replicate 8 0).set 0 r = limbs W64 8 r := by
  refine eq_limbs ((Dg.replicate W64_pos 8).set 0 r h) 8 r (by simp) ?_
  have := val_set W64 (List.replicate 8 0) 0 r (by simp)
  rw [val_replicate, getD_replicate, Nat.zero_mul, Nat.add_zero, Nat.zero_add, Nat.pow_zero, Nat.mul_one] at this
  exact this

theorem rem1024_any (bx bm : Nat) (tx tm : TypeId) (X M : List Nat) (w : World) (hX : IB w bx .u64 tx X) (hM : IB w bm .u64 tm M) (lX : X.length = 16) (lM : M.length = 8) (dX : Dg W64 X) (dM : Dg W64 M) :
    Calls Sang.prog 13 #[.pointer (some ⟨bx, 0, none⟩), .pointer (some ⟨bm, 0, none⟩)] w fun e w' =>
      e = .returned (.tuple #[.agg (ints .u64 (limbs W64 8 (remF (val W64 X) (val W64 M)))), .agg (ints .u8 (pathA (val W64 X) (val W64 M)))]) ∧ Fr w.heap.size no w w' := by
  have ht := nlim_lc dX lX
  have hn := nlim_lc dM lM
  have hNM : Nl (nlim (val W64 M)) (val W64 M) := Nl_digs _
  have hNX : Nl (nlim (val W64 X)) (val W64 X) := Nl_digs _
  have hn8 : nlim (val W64 M) ≤ 8 := by rw [← hn]; exact lcF_le M 8
  by_cases h0 : nlim (val W64 M) = 0
  · have hM0 : val W64 M = 0 := by
      have := hNM.1
      rw [h0, Nat.pow_zero] at this
      omega
    have := rem_zero bx bm tx tm X M w hX hM lX lM (by rw [hn, h0])
    have ep : pathA (val W64 X) (val W64 M) = [0, 0, 0] := by unfold pathA; exact if_pos (Or.inl h0)
    have er : remF (val W64 X) (val W64 M) = 0 := by unfold remF; exact if_pos hM0
    rw [ep, er, limbs_zero]
    exact this
  have hMlo : W64 ^ (nlim (val W64 M) - 1) ≤ val W64 M := hNM.2.resolve_left h0
  have hMne : val W64 M ≠ 0 := by
    have : 0 < W64 ^ (nlim (val W64 M) - 1) := Nat.pow_pos W64_pos
    omega
  have er : remF (val W64 X) (val W64 M) = val W64 X % val W64 M := by unfold remF; exact if_neg hMne
  rw [er]
  by_cases h1 : nlim (val W64 X) < nlim (val W64 M)
  · have := rem_less bx bm tx tm X M w hX hM lX lM (nlim (val W64 M)) hn h0 (by rw [ht]; exact h1)
    have ep : pathA (val W64 X) (val W64 M) = [0, 0, 0] := by unfold pathA; exact if_pos (Or.inr h1)
    rw [ep]
    have hlt : val W64 X < val W64 M := by
      have h2 : W64 ^ nlim (val W64 X) ≤ W64 ^ (nlim (val W64 M) - 1) := Nat.pow_le_pow_right W64_pos (by omega)
      have := hNX.1
      omega
    have hX8 : val W64 X < W64 ^ 8 := by
      have h2 : W64 ^ nlim (val W64 X) ≤ W64 ^ 8 := Nat.pow_le_pow_right W64_pos (by omega)
      exact Nat.lt_of_lt_of_le hNX.1 h2
    rw [Nat.mod_eq_of_lt hlt, ← eq_limbs (dX.take 8) 8 (val W64 X) (by simp [lX]) (by rw [val_take_mod dX W64_pos, Nat.mod_eq_of_lt hX8])]
    exact this
  by_cases h2 : nlim (val W64 M) = 1
  · have := rem_one bx bm tx tm X M w hX hM lX lM dX dM (by rw [hn, h2]) (by rw [ht]; omega)
    have hMW : val W64 M < W64 := by have := hNM.1; rwa [h2, Nat.pow_one] at this
    have e : M.getD 0 0 = val W64 M := by
      rw [getD_val dM W64_pos, Nat.pow_zero, Nat.div_one, Nat.mod_eq_of_lt hMW]
    rw [e, one_row _ (Nat.lt_trans (Nat.mod_lt _ (by omega)) hMW), ht] at this
    have ep : pathA (val W64 X) (val W64 M) = [nlim (val W64 X), 0, 0] := by
      unfold pathA
      rw [if_neg (show ¬ (nlim (val W64 M) = 0 ∨ nlim (val W64 X) < nlim (val W64 M)) by omega), if_pos h2, h2, show nlim (val W64 X) - 1 + 1 = nlim (val W64 X) by omega]
    rw [ep]
    exact this
  · have := rem_many bx bm tx tm X M w hX hM lX lM (nlim (val W64 M)) dX dM hn (by omega) (by rw [ht]; omega)
    have e : M.getD (nlim (val W64 M) - 1) 0 = val W64 M / W64 ^ (nlim (val W64 M) - 1) := by
      rw [getD_val dM W64_pos]
      refine Nat.mod_eq_of_lt ?_
      rw [Nat.div_lt_iff_lt_mul (Nat.pow_pos W64_pos)]
      have := hNM.1
      rwa [show nlim (val W64 M) = (nlim (val W64 M) - 1) + 1 by omega, Nat.pow_succ, Nat.mul_comm] at this
    rw [e, ht] at this
    have ep : pathA (val W64 X) (val W64 M) = pathF (nlim (val W64 X)) (nlim (val W64 M)) (sOf (nlim (val W64 M)) (val W64 M)) (val W64 X) (val W64 M) := by
      unfold pathA
      rw [if_neg (show ¬ (nlim (val W64 M) = 0 ∨ nlim (val W64 X) < nlim (val W64 M)) by omega), if_neg h2]
    rw [ep]
    exact this

end Go.Proofs.Ygcsan
