/-
  What a precompiled contract takes, costs and answers, in plain numbers.
-/
import Derived.Test.YgcsanGreatYpA
import Derived.Test.YgcsanGreatRm
namespace Go.Proofs.YgcsanGreat
open Go.RowKit
set_option linter.unusedSimpArgs false
set_option linter.unusedVariables false

/-- length i of a modular exponentiation -/
def lenI (I : List Nat) (i : Nat) : Nat := be (partB I (32 * i) 32)

/-- none of the lengths is above 64 -/
def lenOk (I : List Nat) : Prop := ∀ i, i < 3 → lenI I i ≤ 64

theorem lenI_room {I : List Nat} (h : Dg 256 I) (i : Nat) : lenI I i < W64 ^ 4 := by
  have := be_lt (partB_dg h (32 * i) 32)
  rw [partB_length] at this
  exact this

theorem results_tmp4 {fn : Func} {t u v x : Tmp} (h : fn.results = #[.tmp t, .tmp u, .tmp v, .tmp x]) (tmps : Array Value) (P : Program) (w : World) :
    (results fn tmps).run P w = .ok (.tuple #[tmps.getD t undef, tmps.getD u undef, tmps.getD v undef, tmps.getD x undef]) w := by
  simp [results, h]

/-- the number of bits -/
def blen (H : Nat) : Nat := bitsF H (8 * (digs H).length)

/-- the head of the exponent -/
def headN (I : List Nat) : Nat := be (partB I (96 + lenI I 0) (min (lenI I 1) 32))

/-- the turns of a modular exponentiation -/
def turnsN (I : List Nat) : Nat := (blen (headN I) - 1) + (if 32 < lenI I 1 then 8 * (lenI I 1 - 32) else 0)

/-- what the contract costs -/
def costN (kind : Nat) (I : List Nat) : Nat :=
  if kind = 4 then 15 + 3 * ((I.length + 31) / 32) else max 200 ((max (lenI I 0) (lenI I 2) + 7) / 8 * ((max (lenI I 0) (lenI I 2) + 7) / 8) * max (turnsN I) 1 / 3)

/-- whether the contract takes the input -/
def takesN (kind : Nat) (I : List Nat) : Prop := kind = 4 ∨ (kind = 5 ∧ lenOk I)

theorem headN_room {I : List Nat} (h : Dg 256 I) : headN I < W64 ^ 4 := by
  have := be_lt (partB_dg h (96 + lenI I 0) (min (lenI I 1) 32))
  rw [partB_length] at this
  have h2 : 256 ^ (min (lenI I 1) 32) ≤ 256 ^ 32 := Nat.pow_le_pow_right (by decide) (Nat.min_le_right _ _)
  exact Nat.lt_of_lt_of_le this h2

theorem blen_le {H : Nat} (h : H < W64 ^ 4) : blen H ≤ 256 := by
  refine Nat.le_trans (bitsF_le _ _) ?_
  have := digs_room H 4 h
  omega

theorem limbs_append (B : Nat) : ∀ (a b n : Nat), limbs B (a + b) n = limbs B a n ++ limbs B b (n / B ^ a)
  | 0, b, n => by simp [limbs]
  | a + 1, b, n => by
    rw [show a + 1 + b = (a + b) + 1 by omega, limbs, limbs, limbs_append B a b (n / B), List.cons_append, Nat.div_div_eq_div_mul, Nat.pow_succ, Nat.mul_comm]

theorem limbs_mod (B k n : Nat) (hB : 0 < B) : limbs B k (n % B ^ k) = limbs B k n :=
  (eq_limbs (limbs_dg hB k n) k _ (limbs_length _ _ _) (val_limbs _ _ _)).symm

theorem limbs_room {B k n m : Nat} (hB : 0 < B) (h : k ≤ m) : (limbs B m n).take k = limbs B k n := by
  obtain ⟨d, rfl⟩ : ∃ d, m = k + d := ⟨m - k, by omega⟩
  rw [limbs_append, List.take_left' (limbs_length _ _ _)]

/-- the operands and the power -/
def baseN (I : List Nat) : Nat := be (partB I 96 (lenI I 0))

def expoN (I : List Nat) : Nat := be (partB I (96 + lenI I 0) (lenI I 1))

def modN (I : List Nat) : Nat := be (partB I (96 + lenI I 0 + lenI I 1) (lenI I 2))

/-- the output of the modular exponentiation -/
def outN (I : List Nat) : List Nat := (limbs 256 (lenI I 2) (powF (baseN I) (expoN I) (modN I))).reverse

theorem operand_room {I : List Nat} (h : Dg 256 I) (off n : Nat) (hn : n ≤ 64) : be (partB I off n) < W64 ^ 8 := by
  have := be_lt (partB_dg h off n)
  rw [partB_length] at this
  exact Nat.lt_of_lt_of_le this (Nat.pow_le_pow_right (by decide) hn)

end Go.Proofs.YgcsanGreat
