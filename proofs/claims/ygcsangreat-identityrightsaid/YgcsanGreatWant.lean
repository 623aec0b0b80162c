/-
  Package law: modExpWant.
-/
import Derived.Test.YgcsanGreatIntr
namespace Go.Proofs.YgcsanGreat
open Go.RowKit
set_option linter.unusedSimpArgs false
set_option linter.unusedVariables false

theorem blen_lt (H : Nat) : H < 2 ^ blen H := by
  refine bitsF_lt H _ ?_
  rw [Nat.pow_mul]
  exact (digs_length_le _ _).1 (Nat.le_refl _)
theorem blen_ge (H : Nat) (h : blen H ≠ 0) : 2 ^ (blen H - 1) ≤ H := bitsF_ge H _ h
theorem blen_unique {H a b : Nat} (ha : H < 2 ^ a) (ha' : a ≠ 0 → 2 ^ (a - 1) ≤ H) (hb : H < 2 ^ b) (hb' : b ≠ 0 → 2 ^ (b - 1) ≤ H) : a = b := by
  have key : ∀ {a b : Nat}, H < 2 ^ a → (b ≠ 0 → 2 ^ (b - 1) ≤ H) → b ≤ a := by
    intro a b h1 h2
    by_cases hb : b = 0
    · omega
    · have h3 := Nat.lt_of_le_of_lt (h2 hb) h1
      have := (Nat.pow_lt_pow_iff_right (show 1 < 2 by decide)).1 h3
      omega
  have h1 := key ha hb'
  have h2 := key hb ha'
  omega
theorem blen_half (H : Nat) : blen (H / 2) = blen H - 1 := by
  refine blen_unique (blen_lt _) (blen_ge _) ?_ (fun h => ?_)
  · have := blen_lt H
    by_cases h0 : blen H = 0
    · rw [h0] at this ⊢
      simp at this ⊢
      omega
    · rw [show blen H = (blen H - 1) + 1 by omega, Nat.pow_succ] at this
      omega
  · have := blen_ge H (by omega)
    rw [show blen H - 1 = (blen H - 1 - 1) + 1 by omega, Nat.pow_succ] at this
    omega
theorem blen_pos {k : Nat} (h : k ≠ 0) : blen k ≠ 0 := by
  intro h0
  have := blen_lt k
  rw [h0] at this
  simp at this
  exact h this
theorem blen_small {k : Nat} (h : k < 256) : blen k ≤ 8 := by
  by_cases h0 : blen k = 0
  · omega
  · have h1 := Nat.lt_of_le_of_lt (blen_ge k h0) h
    have := (Nat.pow_lt_pow_iff_right (show 1 < 2 by decide)).1 (show 2 ^ (blen k - 1) < 2 ^ 8 from h1)
    omega

/-- the law's own reckoning of the output -/
def wantOut (lm r : Nat) : List Nat := if lm = 0 then [] else List.replicate (lm - 1) 0 ++ [r]


set_option maxRecDepth 10000 in
set_option maxHeartbeats 400000 in
theorem want_no (lb le lm b e m : Nat) (w : World) (h : ¬ (lb ≤ 64 ∧ le ≤ 64 ∧ lm ≤ 64)) :
    Calls Sang.prog 39 #[.int .u8 (lb : Int), .int .u8 (le : Int), .int .u8 (lm : Int), .int .u8 (b : Int), .int .u8 (e : Int), .int .u8 (m : Int)] w fun e' w' => e' = .returned (.tuple #[.slice none 0 0, .int .u64 0, .bool false]) ∧ w' = w := by
  by_cases h1 : (64 : Int) < (lb : Int)
  · clear h
    go_enter Sang.func39, Sang.ntmps39
    go_wp2_with fail
    go_ret3
    exact ⟨rfl, rfl⟩
  by_cases h2 : (64 : Int) < (le : Int)
  · clear h
    go_enter Sang.func39, Sang.ntmps39
    go_wp2_with fail
    go_ret3
    exact ⟨rfl, rfl⟩
  · have h3 : (64 : Int) < (lm : Int) := by omega
    clear h
    go_enter Sang.func39, Sang.ntmps39
    go_wp2_with fail
    go_ret3
    exact ⟨rfl, rfl⟩
end Go.Proofs.YgcsanGreat
