/-
  The plain laws of the long division: how many limbs, which shift, the rounds one after the other.
-/
import Derived.Test.YgcsanPlainC
namespace Go.Proofs.Ygcsan
set_option linter.unusedSimpArgs false
set_option linter.unusedVariables false

/-- X has n limbs -/
def Nl (n X : Nat) : Prop := X < W64 ^ n ∧ (n = 0 ∨ W64 ^ (n - 1) ≤ X)

theorem W64_lt2 : 1 < W64 := by decide

theorem Nl_unique {n m X : Nat} (h : Nl n X) (k : Nl m X) : n = m := by
  obtain ⟨h1, h2⟩ := h
  obtain ⟨k1, k2⟩ := k
  rcases Nat.lt_trichotomy n m with h | h | h
  · rcases k2 with k2 | k2
    · omega
    · have : W64 ^ n ≤ W64 ^ (m - 1) := Nat.pow_le_pow_right W64_pos (by omega)
      omega
  · exact h
  · rcases h2 with h2 | h2
    · omega
    · have : W64 ^ m ≤ W64 ^ (n - 1) := Nat.pow_le_pow_right W64_pos (by omega)
      omega

theorem val_cut {L : List Nat} {k n : Nat} (lL : L.length = k) (hlc : lcF L k = n) : val W64 (L.take n) = val W64 L := by
  have hn : n ≤ k := by rw [← hlc]; exact lcF_le L k
  have h1 := val_split W64 L n (by omega)
  have h3 : val W64 (L.drop n) = 0 := by
    apply val_zeros
    intro d hd
    obtain ⟨i, hi, rfl⟩ := List.getElem_of_mem hd
    simp only [List.length_drop] at hi
    have := lcF_zero L k (n + i) (by omega) (by omega)
    rw [List.getElem_drop]
    simpa [List.getD, show n + i < L.length by omega] using this
  rw [h1, h3, Nat.mul_zero, Nat.add_zero]

theorem Nl_lc {L : List Nat} {k : Nat} (dL : Dg W64 L) (lL : L.length = k) : Nl (lcF L k) (val W64 L) := by
  have hn := lcF_le L k
  refine ⟨?_, ?_⟩
  · rw [← val_cut lL rfl]
    have := val_lt (dL.take (lcF L k))
    rwa [show (L.take (lcF L k)).length = lcF L k by simp; omega] at this
  · by_cases h0 : lcF L k = 0
    · exact .inl h0
    · have h1 := lcF_top L k h0
      rw [getD_val dL W64_pos] at h1
      refine .inr ?_
      rcases Nat.lt_or_ge (val W64 L) (W64 ^ (lcF L k - 1)) with h | h
      · rw [Nat.div_eq_of_lt h] at h1; simp at h1
      · exact h

theorem Nl_digs (X : Nat) : Nl (((digs X).length + 7) / 8) X := by
  have h1 := (digs_length_le X (digs X).length).1 (Nat.le_refl _)
  refine ⟨?_, ?_⟩
  · rw [W64_pow, ← Nat.pow_mul]
    refine Nat.lt_of_lt_of_le h1 (Nat.pow_le_pow_right (by decide) (by omega))
  · by_cases h0 : ((digs X).length + 7) / 8 = 0
    · exact .inl h0
    · refine .inr ?_
      rcases Nat.lt_or_ge X (W64 ^ (((digs X).length + 7) / 8 - 1)) with h | h
      · rw [W64_pow, ← Nat.pow_mul] at h
        have := (digs_length_le X _).2 h
        omega
      · exact h

/-- M is shifted by s so that its highest limb is full -/
def Full (n s M : Nat) : Prop := H63 * W64 ^ (n - 1) ≤ M * 2 ^ s ∧ M * 2 ^ s < W64 ^ n

theorem H63_W64 : 2 * H63 = W64 := rfl

theorem pow_pred {n : Nat} (hn : n ≠ 0) : W64 ^ n = 2 * (H63 * W64 ^ (n - 1)) := by
  rw [← Nat.mul_assoc, H63_W64]
  conv => lhs; rw [show n = (n - 1) + 1 by omega, Nat.pow_succ]
  rw [Nat.mul_comm]

theorem Full_lt {n s M k : Nat} (hn : n ≠ 0) (h : Full n s M) (hk : k < s) : M * 2 ^ k < H63 * W64 ^ (n - 1) := by
  obtain ⟨h1, h2⟩ := h
  rw [pow_pred hn] at h2
  have e : 2 ^ s = 2 ^ k * 2 ^ (s - k) := by rw [← Nat.pow_add]; congr 1; omega
  have e2 : 2 ≤ 2 ^ (s - k) := by
    have : 2 ^ 1 ≤ 2 ^ (s - k) := Nat.pow_le_pow_right (by decide) (by omega)
    simpa using this
  rw [e, ← Nat.mul_assoc] at h2
  have h3 : M * 2 ^ k * 2 ≤ M * 2 ^ k * 2 ^ (s - k) := Nat.mul_le_mul_left _ e2
  omega

theorem Full_of_top {L : List Nat} {k n s : Nat} (dL : Dg W64 L) (lL : L.length = k) (hn : lcF L k = n) (h0 : n ≠ 0) (h1 : 2 ^ 63 ≤ L.getD (n - 1) 0 * 2 ^ s) (h2 : L.getD (n - 1) 0 * 2 ^ s < W64) (hs : s < 64) : Full n s (val W64 L) := by
  have hk : n ≤ k := by rw [← hn]; exact lcF_le L k
  have hv := val_cut lL hn
  have hsp := val_take_succ W64 L (n - 1) (by omega)
  rw [show n - 1 + 1 = n by omega, hv] at hsp
  have hlow := val_lt (dL.take (n - 1))
  rw [show (L.take (n - 1)).length = n - 1 by simp; omega] at hlow
  generalize L.getD (n - 1) 0 = d at *
  generalize val W64 (L.take (n - 1)) = lo at *
  have hH : H63 = 2 ^ 63 := by decide
  constructor
  · rw [hsp, Nat.add_mul, hH]
    calc 2 ^ 63 * W64 ^ (n - 1) ≤ d * 2 ^ s * W64 ^ (n - 1) := Nat.mul_le_mul_right _ h1
      _ = d * W64 ^ (n - 1) * 2 ^ s := by rw [Nat.mul_assoc, Nat.mul_comm (2 ^ s), ← Nat.mul_assoc]
      _ ≤ _ := Nat.le_add_left _ _
  · have h3 : (d + 1) * 2 ^ s ≤ W64 := by
      have e : 2 ^ (64 - s) * 2 ^ s = W64 := W64_split s hs
      rw [← e] at h2 ⊢
      have := Nat.lt_of_mul_lt_mul_right h2
      exact Nat.mul_le_mul_right _ this
    have h4 : val W64 L < (d + 1) * W64 ^ (n - 1) := by rw [hsp, Nat.add_mul]; omega
    have hp : 0 < 2 ^ s := Nat.pow_pos (by decide)
    calc val W64 L * 2 ^ s < (d + 1) * W64 ^ (n - 1) * 2 ^ s := Nat.mul_lt_mul_of_pos_right h4 hp
      _ = (d + 1) * 2 ^ s * W64 ^ (n - 1) := by rw [Nat.mul_assoc, Nat.mul_comm (W64 ^ (n - 1)), ← Nat.mul_assoc]
      _ ≤ W64 * W64 ^ (n - 1) := Nat.mul_le_mul_right _ h3
      _ = W64 ^ n := by conv => rhs; rw [show n = (n - 1) + 1 by omega, Nat.pow_succ]
                        rw [Nat.mul_comm]

/-- the shifted divisor's limbs -/
theorem Full_limbs {n s M : Nat} (h0 : n ≠ 0) (hn : n ≤ 8) (h : Full n s M) :
    val W64 (limbs W64 8 (M * 2 ^ s)) = M * 2 ^ s ∧ lcF (limbs W64 8 (M * 2 ^ s)) 8 = n ∧ H63 ≤ (limbs W64 8 (M * 2 ^ s)).getD (n - 1) 0 := by
  obtain ⟨h1, h2⟩ := h
  generalize M * 2 ^ s = A at *
  have h8 : W64 ^ n ≤ W64 ^ 8 := Nat.pow_le_pow_right W64_pos hn
  have hv : val W64 (limbs W64 8 A) = A := by rw [val_limbs, Nat.mod_eq_of_lt (by omega)]
  have hH := H63_pos
  refine ⟨hv, ?_, ?_⟩
  · refine Nl_unique (X := A) ?_ ⟨h2, .inr ?_⟩
    · have := Nl_lc (limbs_dg W64_pos 8 A) (limbs_length W64 8 A)
      rwa [hv] at this
    · refine Nat.le_trans ?_ h1
      exact Nat.le_mul_of_pos_left _ hH
  · rw [limbs_get W64 8 A (n - 1) (by omega)]
    have hp : 0 < W64 ^ (n - 1) := Nat.pow_pos W64_pos
    have hq : A / W64 ^ (n - 1) < W64 := by
      rw [Nat.div_lt_iff_lt_mul hp]
      rw [show n = (n - 1) + 1 by omega, Nat.pow_succ, Nat.mul_comm] at h2
      exact h2
    rw [Nat.mod_eq_of_lt hq]
    exact (Nat.le_div_iff_mul_le hp).2 h1

/-- the rounds at the places j - 1, .., 0: how often a digit was corrected, how often the divisor was put back -/
def rdRun (n : Nat) (V : List Nat) : Nat → Nat → Nat × Nat → Nat × Nat
  | 0, _, p => p
  | j + 1, A, p => rdRun n V j (A % (val W64 V * W64 ^ j)) ((p.1 + rdFix (limbs W64 17 A) V n j) % 256, (p.2 + (rdBack (limbs W64 17 A) V n j).toNat) % 256)

/-- the path of the long division of X, of t limbs, by M, of n limbs, shifted by s -/
def pathF (t n s X M : Nat) : List Nat :=
  [t - n + 1, (rdRun n (limbs W64 8 (M * 2 ^ s)) (t - n + 1) (X * 2 ^ s) (0, 0)).1, (rdRun n (limbs W64 8 (M * 2 ^ s)) (t - n + 1) (X * 2 ^ s) (0, 0)).2]

/-- where the first round starts -/
theorem start_lt {t n s X M : Nat} (hX : X < W64 ^ t) (hM : W64 ^ (n - 1) ≤ M) (hn : n ≠ 0) (hnt : n ≤ t) : X * 2 ^ s < M * 2 ^ s * W64 ^ (t - n + 1) := by
  have hp : 0 < 2 ^ s := Nat.pow_pos (by decide)
  have h1 : W64 ^ t ≤ M * W64 ^ (t - n + 1) := by
    have e : W64 ^ t = W64 ^ (n - 1) * W64 ^ (t - n + 1) := by rw [← Nat.pow_add]; congr 1; omega
    rw [e]
    exact Nat.mul_le_mul_right _ hM
  calc X * 2 ^ s < M * W64 ^ (t - n + 1) * 2 ^ s := Nat.mul_lt_mul_of_pos_right (by omega) hp
    _ = _ := by rw [Nat.mul_assoc, Nat.mul_comm (W64 ^ _), ← Nat.mul_assoc]

theorem start_room {t s X : Nat} (hX : X < W64 ^ t) (ht : t ≤ 16) (hs : s < 64) : X * 2 ^ s < W64 ^ 17 := by
  have h1 : W64 ^ t ≤ W64 ^ 16 := Nat.pow_le_pow_right W64_pos ht
  have h2 : 2 ^ s ≤ W64 := by
    have : 2 ^ s ≤ 2 ^ 64 := Nat.pow_le_pow_right (by decide) (by omega)
    exact this
  have hp : 0 < 2 ^ s := Nat.pow_pos (by decide)
  calc X * 2 ^ s < W64 ^ 16 * 2 ^ s := Nat.mul_lt_mul_of_pos_right (by omega) hp
    _ ≤ W64 ^ 16 * W64 := Nat.mul_le_mul_left _ h2
    _ = W64 ^ 17 := (Nat.pow_succ ..).symm

theorem limbs_take {B : Nat} (hB : 0 < B) (A : Nat) (h : A < B ^ 8) : (limbs B 17 A).take 8 = limbs B 8 A := by
  refine eq_limbs ((limbs_dg hB 17 A).take 8) 8 A (by simp [limbs_length]) ?_
  rw [val_take_mod (limbs_dg hB 17 A) hB, val_limbs]
  have : B ^ 8 ≤ B ^ 17 := Nat.pow_le_pow_right hB (by omega)
  rw [Nat.mod_eq_of_lt (show A < B ^ 17 by omega), Nat.mod_eq_of_lt h]

theorem shift_back (X M s : Nat) : X * 2 ^ s % (M * 2 ^ s) / 2 ^ s = X % M := by
  rw [Nat.mul_mod_mul_right]
  exact Nat.mul_div_cancel _ (Nat.pow_pos (by decide))

end Go.Proofs.Ygcsan
