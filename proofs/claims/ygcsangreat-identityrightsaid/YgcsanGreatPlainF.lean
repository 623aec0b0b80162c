/-
  Powers modulo a number, and bits.
-/
import Derived.Test.YgcsanGreatNat
namespace Go.Proofs.YgcsanGreat
open Go.RowKit
set_option linter.unusedSimpArgs false
set_option linter.unusedVariables false

/-- the remainder of Rem1024 -/
def remF (X M : Nat) : Nat := if M = 0 then 0 else X % M

/-- b to the power e modulo m, 0 for m = 0 -/
def powF (b e m : Nat) : Nat := remF (b ^ e) m

theorem powF_zero (b m : Nat) : powF b 0 m = remF 1 m := rfl
theorem remF_le (X M : Nat) : remF X M ≤ M := by
  unfold remF
  split
  · omega
  · exact Nat.le_of_lt (Nat.mod_lt _ (by omega))
theorem powF_none (b e : Nat) : powF b e 0 = 0 := by unfold powF remF; exact if_pos rfl
theorem powF_lt (b e : Nat) {m : Nat} (h : m ≠ 0) : powF b e m < m := by
  unfold powF remF
  rw [if_neg h]
  exact Nat.mod_lt _ (by omega)
theorem powF_sq (b k m : Nat) : remF (powF b k m * powF b k m) m = powF b (2 * k) m := by
  unfold powF remF
  by_cases h : m = 0
  · simp [h]
  · rw [if_neg h, if_neg h, if_neg h, Nat.two_mul, Nat.pow_add, ← Nat.mul_mod]
theorem powF_mul (b k m : Nat) : remF (powF b k m * b) m = powF b (k + 1) m := by
  unfold powF remF
  by_cases h : m = 0
  · simp [h]
  · rw [if_neg h, if_neg h, if_neg h, Nat.pow_succ]
    simp [Nat.mul_mod]
theorem powF_mul' (b k m : Nat) : remF (powF b k m * remF b m) m = powF b (k + 1) m := by
  unfold powF remF
  by_cases h : m = 0
  · simp [h]
  · rw [if_neg h, if_neg h, if_neg h, if_neg h, Nat.pow_succ, ← Nat.mul_mod]

/-- the next bit -/
theorem shift_bit (e i : Nat) : e / 2 ^ i = 2 * (e / 2 ^ (i + 1)) + e / 2 ^ i % 2 := by
  rw [Nat.pow_succ, ← Nat.div_div_eq_div_mul]
  omega
theorem shift_bit0 {e i : Nat} (h : e / 2 ^ i % 2 = 0) : e / 2 ^ i = 2 * (e / 2 ^ (i + 1)) := by
  have := shift_bit e i
  omega
theorem shift_bit1 {e i : Nat} (h : e / 2 ^ i % 2 = 1) : e / 2 ^ i = 2 * (e / 2 ^ (i + 1)) + 1 := by
  have := shift_bit e i
  omega

/-- how many bits, from k down -/
def bitsF (n : Nat) : Nat → Nat
  | 0 => 0
  | k + 1 => if n / 2 ^ k % 2 = 1 then k + 1 else bitsF n k

theorem bitsF_le (n : Nat) : ∀ k, bitsF n k ≤ k
  | 0 => Nat.le_refl _
  | k + 1 => by
    unfold bitsF
    split
    · exact Nat.le_refl _
    · exact Nat.le_trans (bitsF_le n k) (by omega)
theorem bitsF_shift (n : Nat) : ∀ k, n / 2 ^ k = 0 → n / 2 ^ bitsF n k = 0
  | 0, h => h
  | k + 1, h => by
    unfold bitsF
    split
    · exact h
    · refine bitsF_shift n k ?_
      have := shift_bit n k
      omega
/-- the number of bits is the length of the number in bits -/
theorem bitsF_lt (n : Nat) : ∀ k, n < 2 ^ k → n < 2 ^ bitsF n k
  | 0, h => h
  | k + 1, h => by
    unfold bitsF
    split
    · exact h
    · refine bitsF_lt n k ?_
      rename_i h1
      rw [Nat.pow_succ] at h
      have h2 : n / 2 ^ k < 2 := by
        rw [Nat.div_lt_iff_lt_mul (Nat.pow_pos (by decide))]
        omega
      have h3 : n / 2 ^ k = 0 := by
        generalize n / 2 ^ k = t at h1 h2
        omega
      rcases Nat.div_eq_zero_iff.1 h3 with h4 | h4
      · exact absurd h4 (Nat.ne_of_gt (Nat.pow_pos (by decide)))
      · exact h4
theorem bitsF_ge (n : Nat) : ∀ k, bitsF n k ≠ 0 → 2 ^ (bitsF n k - 1) ≤ n
  | 0, h => absurd rfl h
  | k + 1, h => by
    unfold bitsF at h ⊢
    split
    · rename_i h1
      rw [Nat.add_sub_cancel]
      refine Nat.le_of_not_lt fun h2 => ?_
      rw [Nat.div_eq_of_lt h2] at h1
      omega
    · rename_i h1
      rw [if_neg h1] at h
      exact bitsF_ge n k h

end Go.Proofs.YgcsanGreat
