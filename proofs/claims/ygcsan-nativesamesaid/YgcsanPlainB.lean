/-
  Plain arithmetic, second part: shifts of limbs; a trial digit; a round of the division.
-/
import Derived.Test.YgcsanPlain
namespace Go.Proofs.Ygcsan
set_option linter.unusedSimpArgs false
set_option linter.unusedVariables false

theorem W64_split (s : Nat) (hs : s < 64) : 2 ^ (64 - s) * 2 ^ s = W64 := by
  rw [← Nat.pow_add, show 64 - s + s = 64 by omega]; rfl

/-- a limb shifted up: what stays and what passes the top -/
theorem shl_split (d s : Nat) (hs : s < 64) : d * 2 ^ s % W64 + W64 * (d / 2 ^ (64 - s)) = d * 2 ^ s := by
  have h := W64_split s hs
  have e : d * 2 ^ s / W64 = d / 2 ^ (64 - s) := by
    rw [← h]; exact Nat.mul_div_mul_right _ _ (Nat.two_pow_pos s)
  rw [← e]
  have := Nat.div_add_mod (d * 2 ^ s) W64
  omega

theorem shl_low (d s : Nat) (hs : s < 64) : d * 2 ^ s % W64 % 2 ^ s = 0 := by
  rw [← W64_split s hs, Nat.mod_mul_left_mod]
  exact Nat.mul_mod_left _ _

theorem up_step (L : List Nat) (s i c d A : Nat) (hs : s < 64) (hp : i < L.length) (HG : L.getD i 0 = d) (HV : val W64 L + c * W64 ^ i = A) :
    val W64 (L.set i (d * 2 ^ s % W64 + c)) + d / 2 ^ (64 - s) * W64 ^ (i + 1) + d * W64 ^ i = A + d * 2 ^ s * W64 ^ i := by
  have h1 := val_set W64 L i (d * 2 ^ s % W64 + c) hp
  rw [HG] at h1
  have h2 : d / 2 ^ (64 - s) * W64 ^ (i + 1) = (W64 * (d / 2 ^ (64 - s))) * W64 ^ i := by rw [Nat.pow_succ, Nat.mul_comm (W64 ^ i) W64, ← Nat.mul_assoc, Nat.mul_comm (d / _)]
  have h3 : (d * 2 ^ s % W64 + W64 * (d / 2 ^ (64 - s))) * W64 ^ i = d * 2 ^ s * W64 ^ i := by rw [shl_split d s hs]
  simp only [Nat.add_mul] at h1 h3
  omega

theorem carry_lt (d s : Nat) (hs : s < 64) (hd : d < W64) : d / 2 ^ (64 - s) < 2 ^ s := by
  rw [Nat.div_lt_iff_lt_mul (Nat.two_pow_pos _), Nat.mul_comm, W64_split s hs]; exact hd

theorem up_limb_lt (d s c : Nat) (hs : s < 64) (hc : c < 2 ^ s) : d * 2 ^ s % W64 + c < W64 := by
  have h1 := shl_low d s hs
  have h2 := Nat.mod_lt (d * 2 ^ s) W64_pos
  have h3 := Nat.div_add_mod (d * 2 ^ s % W64) (2 ^ s)
  rw [h1, Nat.add_zero] at h3
  have h4 : d * 2 ^ s % W64 / 2 ^ s < 2 ^ (64 - s) := by
    rw [Nat.div_lt_iff_lt_mul (Nat.two_pow_pos _), W64_split s hs]; exact h2
  have h5 : 2 ^ s * (d * 2 ^ s % W64 / 2 ^ s + 1) ≤ 2 ^ s * 2 ^ (64 - s) := Nat.mul_le_mul_left _ h4
  rw [Nat.mul_comm (2 ^ s) (2 ^ (64 - s)), W64_split s hs, Nat.mul_add] at h5
  omega

/-- the rest of a number that is shifted down, limb by limb from the top -/
theorem down_step (s T d : Nat) (hs : s < 64) (hd : d < W64) :
    (d + W64 * T) / 2 ^ s % W64 = d / 2 ^ s + T % 2 ^ s * 2 ^ (64 - s) ∧ (d + W64 * T) / 2 ^ s / W64 = T / 2 ^ s ∧ (d + W64 * T) % 2 ^ s = d % 2 ^ s ∧ d / 2 ^ s < 2 ^ (64 - s) := by
  have hW := W64_split s hs
  have h0 : d / 2 ^ s < 2 ^ (64 - s) := by rw [Nat.div_lt_iff_lt_mul (Nat.two_pow_pos _), hW]; exact hd
  have hT := Nat.div_add_mod T (2 ^ s)
  have hr := Nat.mod_lt T (Nat.two_pow_pos s)
  have e1 : (d + W64 * T) / 2 ^ s = d / 2 ^ s + 2 ^ (64 - s) * T := by
    rw [← hW, Nat.mul_comm (2 ^ (64 - s)) (2 ^ s), Nat.mul_assoc, Nat.add_mul_div_left _ _ (Nat.two_pow_pos s)]
  have e2 : d / 2 ^ s + 2 ^ (64 - s) * T = (d / 2 ^ s + T % 2 ^ s * 2 ^ (64 - s)) + W64 * (T / 2 ^ s) := by
    have : 2 ^ (64 - s) * T = 2 ^ (64 - s) * (2 ^ s * (T / 2 ^ s)) + 2 ^ (64 - s) * (T % 2 ^ s) := by rw [← Nat.mul_add, hT]
    rw [this, ← Nat.mul_assoc, hW, Nat.mul_comm (T % 2 ^ s)]
    omega
  have h3 : d / 2 ^ s + T % 2 ^ s * 2 ^ (64 - s) < W64 := by
    have : (T % 2 ^ s + 1) * 2 ^ (64 - s) ≤ 2 ^ s * 2 ^ (64 - s) := Nat.mul_le_mul_right _ hr
    rw [Nat.mul_comm (2 ^ s) (2 ^ (64 - s)), hW, Nat.add_mul] at this
    omega
  refine ⟨?_, ?_, ?_, h0⟩
  · rw [e1, e2, Nat.add_mul_mod_self_left, Nat.mod_eq_of_lt h3]
  · rw [e1, e2, Nat.add_mul_div_left _ _ W64_pos, Nat.div_eq_of_lt h3]; omega
  · rw [← hW, Nat.mul_comm (2 ^ (64 - s)) (2 ^ s), Nat.mul_assoc, Nat.add_mul_mod_self_left]

theorem down_in (d s : Nat) (hs : s < 64) : d * 2 ^ (64 - s) % W64 = d % 2 ^ s * 2 ^ (64 - s) := by
  rw [← W64_split s hs, Nat.mul_comm (2 ^ (64 - s)) (2 ^ s)]
  exact Nat.mul_mod_mul_right _ _ _

/-! ### A trial digit: the base B, the divisor's two top digits, the dividend's three -/
/-- the test by the third digit is the test by all of them -/
theorem test_iff (B top next low U q r : Nat) (h : q * top + r = U) : q * next ≤ r * B + low ↔ q * (top * B + next) ≤ U * B + low := by
  have e1 : q * (top * B + next) = q * top * B + q * next := by rw [Nat.mul_add, Nat.mul_assoc]
  have e2 : U * B = q * top * B + r * B := by rw [← h, Nat.add_mul]
  omega

theorem first_ge (B top next low U : Nat) (ht : 0 < top) (hB : 0 < B) (hl : low < B) : (U * B + low) / (top * B + next) ≤ U / top := by
  rw [Nat.le_div_iff_mul_le ht]
  have h1 := Nat.div_mul_le_self (U * B + low) (top * B + next)
  generalize (U * B + low) / (top * B + next) = q at *
  have h2 : q * (top * B + next) = q * top * B + q * next := by rw [Nat.mul_add, Nat.mul_assoc]
  have h3 : q * top * B < (U + 1) * B := by
    rw [Nat.add_mul]; omega
  have := Nat.lt_of_mul_lt_mul_right h3
  omega

/-- past the base the digit is right -/
theorem past_base (B top next low U q r : Nat) (h : q * top + r = U) (hq : q < B) (hn : next < B) (hr : B ≤ r) : q * (top * B + next) ≤ U * B + low := by
  refine (test_iff B top next low U q r h).1 ?_
  have h1 : q * next ≤ B * B := Nat.mul_le_mul (by omega) (by omega)
  have h2 : B * B ≤ r * B := Nat.mul_le_mul_right _ hr
  omega

/-- the trial digit -/
def qhat (B top next low U : Nat) : Nat := min ((U * B + low) / (top * B + next)) (B - 1)

theorem qhat_of_le (B top next low U q : Nat) (hV : 0 < top * B + next) (h : q * (top * B + next) ≤ U * B + low) (hq : q < B) (hge : qhat B top next low U ≤ q) : q = qhat B top next low U := by
  have h1 : q ≤ (U * B + low) / (top * B + next) := (Nat.le_div_iff_mul_le hV).2 h
  unfold qhat at *
  omega

theorem qhat_of_gt (B top next low U q : Nat) (hV : 0 < top * B + next) (h : ¬ q * (top * B + next) ≤ U * B + low) : qhat B top next low U ≤ q - 1 ∧ 0 < q := by
  have h1 : (U * B + low) / (top * B + next) < q := by
    rw [Nat.div_lt_iff_lt_mul hV]; omega
  unfold qhat
  generalize (U * B + low) / (top * B + next) = z at *
  omega

/-! ### The trial digit against the true one -/
theorem qhat_true (W n top next low U X V : Nat) (hW : 0 < W) (hV : V / W ^ n = top * W + next) (hX : X / W ^ n = U * W + low) (htop : W ≤ top * W + next) (hlt : X < W * V) :
    X / V ≤ qhat W top next low U ∧ qhat W top next low U ≤ X / V + 1 := by
  have hp : 0 < W ^ n := Nat.pow_pos hW
  have hV0 : 0 < V := by
    rcases Nat.eq_zero_or_pos V with h | h
    · subst h; simp at hlt
    · exact h
  have hVd := Nat.div_add_mod V (W ^ n)
  have hVm := Nat.mod_lt V hp
  have hXd := Nat.div_add_mod X (W ^ n)
  have hXm := Nat.mod_lt X hp
  rw [hV] at hVd
  rw [hX] at hXd
  unfold qhat
  generalize V % W ^ n = v at *
  generalize X % W ^ n = x at *
  generalize top * W + next = V2 at *
  generalize U * W + low = U3 at *
  clear hV hX
  have hQW : X / V < W := (Nat.div_lt_iff_lt_mul hV0).2 hlt
  have hQ1 := Nat.div_mul_le_self X V
  have hQ2 : X < (X / V + 1) * V := by
    have := Nat.lt_div_mul_add (a := X) hV0
    rw [Nat.add_mul, Nat.one_mul]; exact this
  generalize X / V = Q at *
  have hV2 : 0 < V2 := by omega
  have hle : Q ≤ U3 / V2 := by
    rw [Nat.le_div_iff_mul_le hV2]
    have h1 : Q * (W ^ n * V2) ≤ Q * V := Nat.mul_le_mul_left _ (by omega)
    have h2 : W ^ n * (Q * V2) < W ^ n * (U3 + 1) := by
      rw [Nat.mul_add, Nat.mul_one, ← Nat.mul_assoc, Nat.mul_comm (W ^ n) Q, Nat.mul_assoc]
      omega
    have := Nat.lt_of_mul_lt_mul_left h2
    omega
  have hq2 := Nat.div_mul_le_self U3 V2
  generalize hz : U3 / V2 = z at *
  refine ⟨by omega, ?_⟩
  rcases Nat.lt_or_ge (Q + 1) (min z (W - 1)) with h | h
  · exfalso
    generalize hq : min z (W - 1) = q at *
    have hqz : q * V2 ≤ U3 := Nat.le_trans (Nat.mul_le_mul_right _ (by omega)) hq2
    have h1 : W ^ n * (q * V2) ≤ W ^ n * U3 := Nat.mul_le_mul_left _ hqz
    have h2 : (Q + 1) * V ≤ (q - 1) * V := Nat.mul_le_mul_right _ (by omega)
    have h3 : (q - 1) * V < (q - 1) * (W ^ n * (V2 + 1)) := Nat.mul_lt_mul_of_pos_left (by rw [Nat.mul_add]; omega) (by omega)
    have h4 : (q - 1) * (W ^ n * (V2 + 1)) = W ^ n * ((q - 1) * (V2 + 1)) := by rw [← Nat.mul_assoc, Nat.mul_comm (q - 1), Nat.mul_assoc]
    have h5 : W ^ n * (q * V2) < W ^ n * ((q - 1) * (V2 + 1)) := by omega
    have h6 := Nat.lt_of_mul_lt_mul_left h5
    have h7 : (q - 1) * (V2 + 1) = (q - 1) * V2 + (q - 1) := by rw [Nat.mul_add, Nat.mul_one]
    have h8 : q * V2 = (q - 1) * V2 + V2 := by
      have : q = (q - 1) + 1 := by omega
      rw [this, Nat.add_mul, Nat.one_mul]; simp
    omega
  · exact h

/-! ### A division of two words by one, in halves of words -/
theorem past_base' (B top next low U q r : Nat) (h : q * top + r = U) (hq : q ≤ B) (hn : next < B) (hr : B ≤ r) : q * (top * B + next) ≤ U * B + low := by
  refine (test_iff B top next low U q r h).1 ?_
  have h1 : q * next ≤ B * B := Nat.mul_le_mul hq (by omega)
  have h2 : B * B ≤ r * B := Nat.mul_le_mul_right _ hr
  omega

/-- the first guess is at most two too high -/
theorem guess_le (B top next U : Nat) (ht : 2 * top ≥ B) (h0 : 0 < top) (hn : next < B) (hU : U < top * B + next) : U / top ≤ B + 1 := by
  rw [Nat.div_le_iff_le_mul_add_pred h0]
  have : top * (B + 1) = top * B + top := by rw [Nat.mul_add, Nat.mul_one]
  omega

/-- what stays when the digit is taken, reckoned modulo the word -/
theorem rest_eq (A q y : Nat) (h : q = A / y) : A - q * y = A % y := by
  subst h
  have h1 := Nat.div_add_mod A y
  rw [Nat.mul_comm] at h1
  omega

theorem two_halves (B y U l1 l0 q1 q0 R : Nat) (hy : 0 < y) (h1 : q1 = (U * B + l1) / y) (hR : R = (U * B + l1) % y) (h0 : q0 = (R * B + l0) / y) :
    q1 * B + q0 = (U * (B * B) + (l1 * B + l0)) / y ∧ (R * B + l0) % y = (U * (B * B) + (l1 * B + l0)) % y := by
  have e : U * (B * B) + (l1 * B + l0) = (R * B + l0) + y * (q1 * B) := by
    have h2 := Nat.div_add_mod (U * B + l1) y
    rw [← h1, ← hR] at h2
    have h3 : (U * B + l1) * B = (y * q1 + R) * B := by rw [h2]
    simp only [Nat.add_mul, Nat.mul_assoc] at h3
    omega
  rw [e, Nat.add_mul_div_left _ _ hy, Nat.add_mul_mod_self_left]
  exact ⟨by omega, rfl⟩

theorem shift_div (hi lo y s : Nat) (hs : s < 64) (hy : 0 < y) (hlo : lo < W64) :
    (hi * 2 ^ s + lo / 2 ^ (64 - s)) * W64 + lo * 2 ^ s % W64 = (hi * W64 + lo) * 2 ^ s ∧
    (hi * W64 + lo) * 2 ^ s / (y * 2 ^ s) = (hi * W64 + lo) / y ∧ (hi * W64 + lo) * 2 ^ s % (y * 2 ^ s) = (hi * W64 + lo) % y * 2 ^ s := by
  refine ⟨?_, ?_, ?_⟩
  · have h := shl_split lo s hs
    have e1 : (hi * 2 ^ s + lo / 2 ^ (64 - s)) * W64 = hi * W64 * 2 ^ s + W64 * (lo / 2 ^ (64 - s)) := by
      rw [Nat.add_mul, Nat.mul_assoc, Nat.mul_comm (2 ^ s), ← Nat.mul_assoc, Nat.mul_comm (lo / _)]
    rw [e1, Nat.add_mul]
    omega
  · exact Nat.mul_div_mul_right _ _ (Nat.two_pow_pos s)
  · exact Nat.mul_mod_mul_right _ _ _

theorem norm_lt (hi lo y s : Nat) (hs : s < 64) (h1 : hi < y) (hlo : lo < W64) : hi * 2 ^ s + lo / 2 ^ (64 - s) < y * 2 ^ s := by
  have h2 := carry_lt lo s hs hlo
  have h3 : (hi + 1) * 2 ^ s ≤ y * 2 ^ s := Nat.mul_le_mul_right _ h1
  rw [Nat.add_mul] at h3
  omega

end Go.Proofs.Ygcsan
