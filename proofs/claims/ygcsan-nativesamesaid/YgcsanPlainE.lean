/-
  The plain path of Rem1024.
-/
import Derived.Test.YgcsanFrame
import Derived.Test.YgcsanPlainD
namespace Go.Proofs.Ygcsan
open Go.RowKit
set_option linter.unusedSimpArgs false
set_option linter.unusedVariables false

/-- how many limbs -/
def nlim (X : Nat) : Nat := ((digs X).length + 7) / 8
/-- by how much the divisor is shifted -/
def sOf (n M : Nat) : Nat := 64 - Lib.bitLen (M / W64 ^ (n - 1))
/-- the path of Rem1024 -/
def pathA (X M : Nat) : List Nat :=
  if nlim M = 0 ∨ nlim X < nlim M then [0, 0, 0] else if nlim M = 1 then [nlim X - nlim M + 1, 0, 0] else pathF (nlim X) (nlim M) (sOf (nlim M) M) X M
/-- the remainder of Rem1024 -/
def remF (X M : Nat) : Nat := if M = 0 then 0 else X % M

/-- the law's shift is the least that fills the highest limb -/
theorem sOf_full {n M : Nat} (hn : Nl n M) (h0 : n ≠ 0) : Full n (sOf n M) M ∧ sOf n M < 64 := by
  have hp : 0 < W64 ^ (n - 1) := Nat.pow_pos W64_pos
  have hlo := hn.2.resolve_left h0
  have h1 : M / W64 ^ (n - 1) < W64 := by
    rw [Nat.div_lt_iff_lt_mul hp]
    have := hn.1
    rwa [show n = (n - 1) + 1 by omega, Nat.pow_succ, Nat.mul_comm] at this
  have h2 : M / W64 ^ (n - 1) ≠ 0 := by
    have := Nat.div_pos hlo hp
    omega
  obtain ⟨a, b, c⟩ := lz_norm _ h1 h2
  have hv : val W64 (limbs W64 n M) = M := by rw [val_limbs, Nat.mod_eq_of_lt hn.1]
  have hg : (limbs W64 n M).getD (n - 1) 0 = M / W64 ^ (n - 1) := by rw [limbs_get W64 n M (n - 1) (by omega), Nat.mod_eq_of_lt h1]
  have hlc : lcF (limbs W64 n M) n = n := by
    refine Nl_unique (Nl_lc (limbs_dg W64_pos n M) (limbs_length _ _ _)) ?_
    rw [hv]; exact hn
  have := Full_of_top (s := sOf n M) (limbs_dg W64_pos n M) (limbs_length _ _ _) hlc h0 (by rw [hg]; exact b) (by rw [hg]; exact c) a
  rw [hv] at this
  exact ⟨this, a⟩

theorem half_pow {n : Nat} (h0 : n ≠ 0) : 2 ^ (64 * n - 1) = H63 * W64 ^ (n - 1) := by
  have e1 : H63 = 2 ^ 63 := by decide
  have e2 : W64 = 2 ^ 64 := by decide
  rw [e1, e2, ← Nat.pow_mul, ← Nat.pow_add]
  congr 1
  omega
end Go.Proofs.Ygcsan
