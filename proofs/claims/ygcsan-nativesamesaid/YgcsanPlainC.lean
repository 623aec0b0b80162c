/-
  Plain arithmetic, third part: a round of the division.
-/
import Derived.Test.YgcsanPlainB
namespace Go.Proofs.Ygcsan
set_option linter.unusedSimpArgs false
set_option linter.unusedVariables false

/-- the trial digit's first guess -/
def guess (high mid top : Nat) : Nat := if high < top then (high * W64 + mid) / top else W64 - 1
def H63 : Nat := 9223372036854775808
theorem H63_pos : 0 < H63 := by decide

/-- the trial digit of the round at place o -/
def rdQ (L V : List Nat) (n o : Nat) : Nat := qhat W64 (V.getD (n - 1) 0) (V.getD (n - 2) 0) (L.getD (o + n - 2) 0) (L.getD (o + n) 0 * W64 + L.getD (o + n - 1) 0)
/-- how often it was corrected -/
def rdFix (L V : List Nat) (n o : Nat) : Nat := guess (L.getD (o + n) 0) (L.getD (o + n - 1) 0) (V.getD (n - 1) 0) - rdQ L V n o
/-- whether the divisor was put back -/
def rdBack (L V : List Nat) (n o : Nat) : Bool := decide (val W64 L < rdQ L V n o * (val W64 V * W64 ^ o))

theorem div_pow_split (X k : Nat) : X / W64 ^ k = X / W64 ^ (k + 1) * W64 + X / W64 ^ k % W64 := by
  have h := Nat.div_add_mod (X / W64 ^ k) W64
  rw [Nat.pow_succ, ← Nat.div_div_eq_div_mul, Nat.mul_comm]
  exact h.symm

theorem val_drop {B : Nat} {l : List Nat} (h : Dg B l) (hB : 0 < B) (k : Nat) : val B (l.drop k) = val B l / B ^ k := by
  by_cases hk : k ≤ l.length
  · have h1 := val_split B l k hk
    have h2 := val_lt (h.take k)
    rw [show (l.take k).length = k by simp; omega] at h2
    rw [h1, Nat.add_mul_div_left _ _ (Nat.pow_pos hB), Nat.div_eq_of_lt h2, Nat.zero_add]
  · have h1 := val_lt h
    have h2 : B ^ l.length ≤ B ^ k := Nat.pow_le_pow_right hB (by omega)
    rw [List.drop_of_length_le (by omega), Nat.div_eq_of_lt (by omega)]
    rfl

theorem val_take_mod {B : Nat} {l : List Nat} (h : Dg B l) (hB : 0 < B) (k : Nat) : val B (l.take k) = val B l % B ^ k := by
  by_cases hk : k ≤ l.length
  · have h1 := val_split B l k hk
    have h2 := val_lt (h.take k)
    rw [show (l.take k).length = k by simp; omega] at h2
    rw [h1, Nat.add_mul_mod_self_left, Nat.mod_eq_of_lt h2]
  · have h1 := val_lt h
    have h2 : B ^ l.length ≤ B ^ k := Nat.pow_le_pow_right hB (by omega)
    rw [List.take_of_length_le (by omega), Nat.mod_eq_of_lt (by omega)]

section
variable {L V : List Nat} {n o : Nat}

theorem rd_facts (dL : Dg W64 L) (dV : Dg W64 V) (hn : 2 ≤ n) (hV : val W64 V < W64 ^ n) (htop : H63 ≤ V.getD (n - 1) 0) (hX : val W64 L < val W64 V * W64 ^ (o + 1)) :
    L.getD (o + n) 0 ≤ V.getD (n - 1) 0 ∧ val W64 L / (val W64 V * W64 ^ o) ≤ rdQ L V n o ∧ rdQ L V n o ≤ val W64 L / (val W64 V * W64 ^ o) + 1 ∧ (∀ p, o + n < p → L.getD p 0 = 0) ∧
    val W64 ((L.drop (o + 1)).take n) < val W64 V := by
  have hW := W64_pos
  have gL := fun p => getD_val dL hW p
  have gV := fun p => getD_val dV hW p
  have hXlt : val W64 L < W64 ^ (o + n + 1) := by
    have : val W64 V * W64 ^ (o + 1) ≤ W64 ^ n * W64 ^ (o + 1) := Nat.mul_le_mul_right _ (by omega)
    rw [← Nat.pow_add, show n + (o + 1) = o + n + 1 by omega] at this
    omega
  have hhigh : L.getD (o + n) 0 = val W64 L / W64 ^ (o + n) := by
    rw [gL]
    apply Nat.mod_eq_of_lt
    rw [Nat.div_lt_iff_lt_mul (Nat.pow_pos hW), ← Nat.pow_succ']
    exact hXlt
  have htopv : V.getD (n - 1) 0 = val W64 V / W64 ^ (n - 1) := by
    rw [gV]
    apply Nat.mod_eq_of_lt
    rw [Nat.div_lt_iff_lt_mul (Nat.pow_pos hW), ← Nat.pow_succ', show (n - 1).succ = n by omega]
    exact hV
  have hV2 : V.getD (n - 1) 0 * W64 + V.getD (n - 2) 0 = val W64 V / W64 ^ (n - 2) := by
    rw [htopv, gV]
    have := div_pow_split (val W64 V) (n - 2)
    rw [show n - 2 + 1 = n - 1 by omega] at this
    exact this.symm
  have hU : L.getD (o + n) 0 * W64 + L.getD (o + n - 1) 0 = val W64 L / W64 ^ (o + n - 1) := by
    rw [hhigh, gL (o + n - 1)]
    have := div_pow_split (val W64 L) (o + n - 1)
    rw [show o + n - 1 + 1 = o + n by omega] at this
    exact this.symm
  have hU3 : (L.getD (o + n) 0 * W64 + L.getD (o + n - 1) 0) * W64 + L.getD (o + n - 2) 0 = val W64 L / W64 ^ o / W64 ^ (n - 2) := by
    rw [hU, gL (o + n - 2), Nat.div_div_eq_div_mul, ← Nat.pow_add, show o + (n - 2) = o + n - 2 by omega]
    have := div_pow_split (val W64 L) (o + n - 2)
    rw [show o + n - 2 + 1 = o + n - 1 by omega] at this
    exact this.symm
  have hX' : val W64 L / W64 ^ o < W64 * val W64 V := by
    rw [Nat.div_lt_iff_lt_mul (Nat.pow_pos hW), Nat.mul_comm W64, Nat.mul_assoc, ← Nat.pow_succ']
    exact hX
  have htW : W64 ≤ V.getD (n - 1) 0 * W64 + V.getD (n - 2) 0 := by
    have h1 : 1 ≤ V.getD (n - 1) 0 := Nat.le_trans H63_pos htop
    have : 1 * W64 ≤ V.getD (n - 1) 0 * W64 := Nat.mul_le_mul_right _ h1
    omega
  have hq := qhat_true W64 (n - 2) (V.getD (n - 1) 0) (V.getD (n - 2) 0) (L.getD (o + n - 2) 0) (L.getD (o + n) 0 * W64 + L.getD (o + n - 1) 0) (val W64 L / W64 ^ o) (val W64 V) hW hV2.symm hU3.symm htW hX'
  have hQ : val W64 L / W64 ^ o / val W64 V = val W64 L / (val W64 V * W64 ^ o) := by rw [Nat.div_div_eq_div_mul, Nat.mul_comm]
  rw [hQ] at hq
  refine ⟨?_, hq.1, hq.2, ?_, ?_⟩
  · rw [hhigh, htopv]
    have h1 : val W64 V < (val W64 V / W64 ^ (n - 1) + 1) * W64 ^ (n - 1) := by
      rw [Nat.add_mul, Nat.one_mul]
      exact Nat.lt_div_mul_add (Nat.pow_pos hW)
    have h2 : val W64 V * W64 ^ (o + 1) < (val W64 V / W64 ^ (n - 1) + 1) * W64 ^ (n - 1) * W64 ^ (o + 1) := Nat.mul_lt_mul_of_pos_right h1 (Nat.pow_pos hW)
    rw [Nat.mul_assoc, ← Nat.pow_add, show n - 1 + (o + 1) = o + n by omega] at h2
    have : val W64 L / W64 ^ (o + n) < val W64 V / W64 ^ (n - 1) + 1 := by
      rw [Nat.div_lt_iff_lt_mul (Nat.pow_pos hW)]
      omega
    omega
  · intro p hp
    rw [gL, Nat.div_eq_of_lt]
    · rfl
    · exact Nat.lt_of_lt_of_le hXlt (Nat.pow_le_pow_right hW (by omega))
  · rw [val_take_mod (dL.drop _) hW, val_drop dL hW]
    refine Nat.lt_of_le_of_lt (Nat.mod_le _ _) ?_
    rw [Nat.div_lt_iff_lt_mul (Nat.pow_pos hW)]
    exact hX

/-- no borrow: the digit was right -/
theorem rd_right {X D q r : Nat} (hD : 0 < D) (h1 : X / D ≤ q) (h : r + q * D = X) : r = X % D ∧ q = X / D ∧ ¬ X < q * D := by
  have hq : q ≤ X / D := by rw [Nat.le_div_iff_mul_le hD]; omega
  have e : q = X / D := by omega
  have h3 := Nat.div_add_mod X D
  rw [Nat.mul_comm, ← e] at h3
  exact ⟨by omega, e, by omega⟩

/-- a borrow: the digit was one too high, and the divisor is put back -/
theorem rd_back {X D q r1 r2 T k : Nat} (hD : 0 < D) (h2 : q ≤ X / D + 1) (h : r1 + q * D = X + T) (hr1 : r1 < T) (hk : k ≤ 1) (hb : r2 + k * T = r1 + D) (hr2 : r2 < T) (hDT : D < T) : r2 = X % D ∧ X < q * D := by
  have hgt : X < q * D := by omega
  have hq : q = X / D + 1 := by
    have : X / D < q := by rw [Nat.div_lt_iff_lt_mul hD]; exact hgt
    omega
  have h3 := Nat.div_add_mod X D
  have h4 := Nat.mod_lt X hD
  rw [hq, Nat.add_mul, Nat.one_mul] at h
  rw [Nat.mul_comm] at h3
  generalize X / D * D = z at *
  rcases Nat.eq_zero_or_pos k with hk0 | hk0
  · subst hk0; exfalso; omega
  · have : k = 1 := by omega
    subst this
    exact ⟨by omega, hgt⟩
end

theorem rdQ_lt (L V : List Nat) (n o : Nat) : rdQ L V n o < W64 := Nat.lt_of_le_of_lt (Nat.min_le_right _ _) (Nat.sub_lt W64_pos (by decide))

end Go.Proofs.Ygcsan
