/-
  math/bits.Div64 and num.Div64.
-/
import Derived.Test.YgcsanShift
namespace Go.Proofs.Ygcsan
open Go.RowKit
set_option linter.unusedSimpArgs false
set_option linter.unusedVariables false

def K32 : Nat := 4294967296
theorem K32_eq : K32 = 4294967296 := rfl
theorem K32_sq : K32 * K32 = W64 := rfl

theorem lz_norm (y : Nat) (h3 : y < W64) (h0 : y ≠ 0) : 64 - Lib.bitLen y < 64 ∧ 2 ^ 63 ≤ y * 2 ^ (64 - Lib.bitLen y) ∧ y * 2 ^ (64 - Lib.bitLen y) < W64 := by
  obtain ⟨h1, h2⟩ := bitLen_spec' y h3
  have h4 := bitLen_le64 y h3
  have h5 : Lib.bitLen y ≠ 0 := by
    intro h; rw [h] at h1; simp at h1; omega
  have h6 := h2 h0
  generalize Lib.bitLen y = L at *
  refine ⟨by omega, ?_, ?_⟩
  · have : 2 ^ (L - 1) * 2 ^ (64 - L) ≤ y * 2 ^ (64 - L) := Nat.mul_le_mul_right _ h6
    rwa [← Nat.pow_add, show L - 1 + (64 - L) = 63 by omega] at this
  · have : y * 2 ^ (64 - L) < 2 ^ L * 2 ^ (64 - L) := Nat.mul_lt_mul_of_pos_right h1 (Nat.two_pow_pos _)
    rwa [← Nat.pow_add, show L + (64 - L) = 64 by omega] at this

theorem normOr (hi lo s : Nat) (hs : s < 64) (h : hi * 2 ^ s < W64) (hlo : lo < W64) :
    bits .or .u64 (IntKind.u64.wrap ((hi : Int) * 2 ^ s)) ((lo : Int) / 2 ^ (64 - s)) = ((hi * 2 ^ s + lo / 2 ^ (64 - s) : Nat) : Int) := by
  rw [shr_nat, upOr hi _ s hs (carry_lt lo s hs hlo), Nat.mod_eq_of_lt h]

set_option maxRecDepth 10000 in
set_option maxHeartbeats 4000000 in
theorem bitsDiv_any (hi lo y : Nat) (h1 : hi < y) (h2 : lo < W64) (h3 : y < W64) (w : World) :
    Calls Sang.prog 77 #[.int .u64 (hi : Int), .int .u64 (lo : Int), .int .u64 (y : Int)] w fun e w' => e = .returned (.tuple #[.int .u64 ((hi * W64 + lo) / y : Nat), .int .u64 ((hi * W64 + lo) % y : Nat)]) ∧ ∃ m, w' = w.drewN m := by
  have hy0 : ((y : Int) == 0) = false := by simp; omega
  have hyh : ¬ (y : Int) ≤ (hi : Int) := by omega
  have hbl := bitsLz_any y h3
  obtain ⟨hs64, hsl, hsu⟩ := lz_norm y h3 (by omega)
  generalize 64 - Lib.bitLen y = s at *
  by_cases hh : hi = 0
  · subst hh
    have e1 : IntKind.u64.wrap ((lo : Int) / (y : Int)) = ((lo / y : Nat) : Int) := by
      rw [IntKind.wrap_u64, ← Int.natCast_ediv]
      have := Nat.div_le_self lo y
      rw [W64_eq] at h2
      generalize lo / y = z at *
      omega
    go_enter Sang.func77, Sang.ntmps77
    go_wp2_with fail
    go_quiet (fail)
    go_wp2_with fail
    go_ret2
    refine ⟨?_, _, rfl⟩
    simp
  · have hh' : ((hi : Int) == 0) = false := by simp; omega
    clear hh
    have hHi : hi * 2 ^ s < W64 := Nat.lt_of_le_of_lt (Nat.mul_le_mul_right _ (Nat.le_of_lt h1)) hsu
    have HU1 := norm_lt hi lo y s hs64 h1 h2
    have HSD := shift_div hi lo y s hs64 (by omega) h2
    have eY : IntKind.u64.wrap ((y : Int) * 2 ^ s) = ((y * 2 ^ s : Nat) : Int) := by rw [wrapMul, Nat.mod_eq_of_lt hsu]
    have eU := normOr hi lo s hs64 hHi h2
    have eN : IntKind.u64.wrap ((lo : Int) * 2 ^ s) = ((lo * 2 ^ s % W64 : Nat) : Int) := wrapMul lo s
    have hNW := Nat.mod_lt (lo * 2 ^ s) W64_pos
    generalize y * 2 ^ s = Y at *
    generalize hi * 2 ^ s + lo / 2 ^ (64 - s) = U at *
    generalize lo * 2 ^ s % W64 = N at *
    have HSD' : Hid (U * W64 + N = (hi * W64 + lo) * 2 ^ s ∧ (hi * W64 + lo) * 2 ^ s / Y = (hi * W64 + lo) / y ∧ (hi * W64 + lo) * 2 ^ s % Y = (hi * W64 + lo) % y * 2 ^ s) := HSD
    clear HSD hHi
    rw [W64_eq] at hsu hNW
    have eY1 : (Y : Int) / 4294967296 = ((Y / 4294967296 : Nat) : Int) := Mul64.divN Y
    have eY0 : bits .and .u64 (Y : Int) 4294967295 = ((Y % 4294967296 : Nat) : Int) := Mul64.maskN Y hsu
    have eN1 : (N : Int) / 4294967296 = ((N / 4294967296 : Nat) : Int) := Mul64.divN N
    have eN0 : bits .and .u64 (N : Int) 4294967295 = ((N % 4294967296 : Nat) : Int) := Mul64.maskN N hNW
    have hYs : Y = Y / 4294967296 * 4294967296 + Y % 4294967296 := by omega
    have hNs : N = N / 4294967296 * 4294967296 + N % 4294967296 := by omega
    have hy1 : 2147483648 ≤ Y / 4294967296 := by omega
    have hy1' : Y / 4294967296 < 4294967296 := by omega
    have hy0' : Y % 4294967296 < 4294967296 := by omega
    have hn1' : N / 4294967296 < 4294967296 := by omega
    have hn0' : N % 4294967296 < 4294967296 := by omega
    generalize Y / 4294967296 = y1 at *
    generalize Y % 4294967296 = y0 at *
    generalize N / 4294967296 = n1 at *
    generalize N % 4294967296 = n0 at *
    have HYs : Hid (Y = y1 * 4294967296 + y0) := hYs
    have HNs : Hid (N = n1 * 4294967296 + n0) := hNs
    clear hYs hNs
    have hUW : U < 18446744073709551616 := by omega
    have eq1 : IntKind.u64.wrap ((U : Int) / (y1 : Int)) = ((U / y1 : Nat) : Int) := by
      rw [IntKind.wrap_u64, ← Int.natCast_ediv]
      have := Nat.div_le_self U y1
      generalize U / y1 = z at *
      omega
    have er1 : IntKind.u64.wrap ((U : Int) - IntKind.u64.wrap (((U / y1 : Nat) : Int) * (y1 : Int))) = ((U % y1 : Nat) : Int) := by
      rw [← Int.natCast_mul, IntKind.wrap_u64, IntKind.wrap_u64]
      have := Nat.div_add_mod U y1
      rw [Nat.mul_comm] at this
      have h5 := Nat.mod_lt U (show y1 > 0 by omega)
      generalize U / y1 * y1 = z at *
      generalize U % y1 = z' at *
      omega
    have hg1 : U / y1 ≤ 4294967297 := guess_le 4294967296 y1 y0 U (by omega) (by omega) hy0' (by rw [← HYs.out]; exact HU1)
    have hr1 := Nat.mod_lt U (show y1 > 0 by omega)
    have HD1 : Hid (U / y1 * y1 + U % y1 = U) := by unfold Hid; rw [Nat.mul_comm]; exact Nat.div_add_mod U y1
    have HQ1 : Hid ((U * 4294967296 + n1) / Y ≤ U / y1) := by
      unfold Hid; rw [HYs.out]; exact first_ge 4294967296 y1 y0 n1 U (by omega) (by omega) hn1'
    generalize U / y1 = q0 at *
    generalize U % y1 = r0 at *
    have hYp : 0 < Y := by omega
    have HU2 : Hid (U < Y) := HU1
    have hQ1K : (U * 4294967296 + n1) / Y < 4294967296 := by
      rw [Nat.div_lt_iff_lt_mul hYp]
      have : (U + 1) * 4294967296 ≤ Y * 4294967296 := Nat.mul_le_mul_right _ HU1
      omega
    generalize hQ1 : (U * 4294967296 + n1) / Y = Q1 at *
    have HQ1e : Hid ((U * 4294967296 + n1) / Y = Q1) := hQ1
    clear hQ1 HU1
    have HRe : Hid (U * 4294967296 + n1 - Q1 * Y = (U * 4294967296 + n1) % Y) := rest_eq _ _ _ HQ1e.out.symm
    have HQY : Hid (Q1 * Y ≤ U * 4294967296 + n1) := by unfold Hid; rw [← HQ1e.out]; exact Nat.div_mul_le_self _ _
    have hRY := Nat.mod_lt (U * 4294967296 + n1) hYp
    generalize hR : (U * 4294967296 + n1) % Y = R at *
    have HRd : Hid ((U * 4294967296 + n1) % Y = R) := hR
    clear hR
    have eR : IntKind.u64.wrap (IntKind.u64.wrap (IntKind.u64.wrap ((U : Int) * 4294967296) + (n1 : Int)) - IntKind.u64.wrap ((Q1 : Int) * (Y : Int))) = (R : Int) := by
      rw [← Int.natCast_mul Q1 Y, IntKind.wrap_u64, IntKind.wrap_u64, IntKind.wrap_u64, IntKind.wrap_u64]
      have a1 := HRe.out
      have a2 := HQY.out
      generalize Q1 * Y = z at *
      omega
    have hRW : R < 18446744073709551616 := by omega
    have eq2 : IntKind.u64.wrap ((R : Int) / (y1 : Int)) = ((R / y1 : Nat) : Int) := by
      rw [IntKind.wrap_u64, ← Int.natCast_ediv]
      have := Nat.div_le_self R y1
      generalize R / y1 = z at *
      omega
    have er2 : IntKind.u64.wrap ((R : Int) - IntKind.u64.wrap (((R / y1 : Nat) : Int) * (y1 : Int))) = ((R % y1 : Nat) : Int) := by
      rw [← Int.natCast_mul, IntKind.wrap_u64, IntKind.wrap_u64]
      have := Nat.div_add_mod R y1
      rw [Nat.mul_comm] at this
      have h5 := Nat.mod_lt R (show y1 > 0 by omega)
      generalize R / y1 * y1 = z at *
      generalize R % y1 = z' at *
      omega
    have hg2 : R / y1 ≤ 4294967297 := guess_le 4294967296 y1 y0 R (by omega) (by omega) hy0' (by rw [← HYs.out]; exact hRY)
    have hr2 := Nat.mod_lt R (show y1 > 0 by omega)
    have HD2 : Hid (R / y1 * y1 + R % y1 = R) := by unfold Hid; rw [Nat.mul_comm]; exact Nat.div_add_mod R y1
    have HQ0 : Hid ((R * 4294967296 + n0) / Y ≤ R / y1) := by
      unfold Hid; rw [HYs.out]; exact first_ge 4294967296 y1 y0 n0 R (by omega) (by omega) hn0'
    generalize R / y1 = q00 at *
    generalize R % y1 = r00 at *
    have hQ0K : (R * 4294967296 + n0) / Y < 4294967296 := by
      rw [Nat.div_lt_iff_lt_mul hYp]
      have : (R + 1) * 4294967296 ≤ Y * 4294967296 := Nat.mul_le_mul_right _ hRY
      omega
    generalize hQ0 : (R * 4294967296 + n0) / Y = Q0 at HQ0 hQ0K
    have HQ0e : Hid ((R * 4294967296 + n0) / Y = Q0) := hQ0
    clear hQ0
    have HTH := two_halves 4294967296 Y U n1 n0 Q1 Q0 R hYp HQ1e.out.symm HRd.out.symm HQ0e.out.symm
    rw [show 4294967296 * 4294967296 = W64 from rfl, ← HNs.out, HSD'.out.1, HSD'.out.2.1, HSD'.out.2.2] at HTH
    have HRe2 : Hid (R * 4294967296 + n0 - Q0 * Y = (R * 4294967296 + n0) % Y) := rest_eq _ _ _ HQ0e.out.symm
    have HQY2 : Hid (Q0 * Y ≤ R * 4294967296 + n0) := by unfold Hid; rw [← HQ0e.out]; exact Nat.div_mul_le_self _ _
    have hRY2 := Nat.mod_lt (R * 4294967296 + n0) hYp
    rw [HTH.2] at HRe2 hRY2
    have HF : Hid (Q1 * 4294967296 + Q0 = (hi * W64 + lo) / y) := HTH.1
    clear HTH
    have eR2 : IntKind.u64.wrap (IntKind.u64.wrap (IntKind.u64.wrap ((R : Int) * 4294967296) + (n0 : Int)) - IntKind.u64.wrap ((Q0 : Int) * (Y : Int))) = (((hi * W64 + lo) % y * 2 ^ s : Nat) : Int) := by
      rw [← Int.natCast_mul Q0 Y, IntKind.wrap_u64, IntKind.wrap_u64, IntKind.wrap_u64, IntKind.wrap_u64]
      have a1 := HRe2.out
      have a2 := HQY2.out
      generalize Q0 * Y = z at *
      generalize (hi * W64 + lo) % y * 2 ^ s = z2 at *
      omega
    have HM : Hid (((hi * W64 + lo) % y * 2 ^ s) / 2 ^ s = (hi * W64 + lo) % y) := Nat.mul_div_cancel _ (Nat.two_pow_pos s)
    generalize (hi * W64 + lo) % y * 2 ^ s = M2 at *
    generalize (hi * W64 + lo) % y = M at *
    generalize (hi * W64 + lo) / y = D at *
    have eM : (M2 : Int) / 2 ^ s = (M : Int) := by rw [shr_nat, HM.out]
    have HB : Hid (2147483648 ≤ y1 ∧ y1 < 4294967296 ∧ y0 < 4294967296 ∧ n1 < 4294967296 ∧ n0 < 4294967296 ∧ Q1 < 4294967296 ∧ q0 ≤ 4294967297 ∧ q00 ≤ 4294967297 ∧ Q0 < 4294967296 ∧ r0 < y1 ∧ r00 < y1 ∧ 0 < Y) := ⟨hy1, hy1', hy0', hn1', hn0', hQ1K, hg1, hg2, hQ0K, hr1, hr2, hYp⟩
    have hy1p : (0 : Int) < (y1 : Int) := by omega
    have eF : IntKind.u64.wrap (IntKind.u64.wrap ((Q1 : Int) * 4294967296) + (Q0 : Int)) = (D : Int) := by
      rw [IntKind.wrap_u64, IntKind.wrap_u64, ← HF.out]
      omega
    clear hy1 hy1' hy0' hn1' hn0' hQ1K hg1 hg2 hsu hNW hUW hsl hRW hQ0K hRY2 HRe2 HQY2 HRe HQY hr1 hr2 hYp hRY
    go_enter Sang.func77, Sang.ntmps77
    go_wp2_with fail
    refine (hbl _).mono ?_
    rintro e w ⟨rfl, rfl⟩
    go_wp2_with fail
    go_loop [15, 16] (fun qv rv => ∃ q r : Nat, qv = .int .u64 q ∧ rv = .int .u64 r ∧ q ≤ 4294967297 ∧ r < 4294967296 ∧ Hid (q * y1 + r = U) ∧ Q1 ≤ q) (fun _ rv => K32 - (intOf rv).toNat)
    case atStart => exact ⟨q0, r0, rfl, rfl, HB.out.2.2.2.2.2.2.1, by have := HB.out; omega, HD1.out, HQ1.out⟩
    case round =>
      obtain ⟨q, r, rfl, rfl, hq, hr, HE, hge⟩ := hrel
      obtain ⟨b1, b2, b3, b4, b5, b6, b7, b8, b9, b10, b11, b12⟩ := HB.out
      have HPB : Hid (4294967296 ≤ r + y1 → 1 ≤ q → Q1 ≤ q - 1 → q = Q1 + 1) := by
        intro a1 a0 a3
        have h5 : (q - 1) * y1 + (r + y1) = U := by
          have := HE.out
          have e : q = (q - 1) + 1 := by omega
          rw [e, Nat.add_mul] at this
          omega
        have h6 := past_base' 4294967296 y1 y0 n1 U (q - 1) (r + y1) h5 (by omega) (by omega) (by omega)
        rw [← HYs.out] at h6
        have h7 : q - 1 ≤ Q1 := by rw [← HQ1e.out]; exact (Nat.le_div_iff_mul_le b12).2 h6
        omega
      have HNX : Hid (1 ≤ q → (q - 1) * y1 + (r + y1) = U) := by
        intro a0
        have := HE.out
        have e : q = (q - 1) + 1 := by omega
        rw [e, Nat.add_mul] at this
        omega
      have er' : IntKind.u64.wrap ((r : Int) + (y1 : Int)) = ((r + y1 : Nat) : Int) := by rw [IntKind.wrap_u64]; omega
      have em' : 1 ≤ q → IntKind.u64.wrap ((q : Int) - 1) = ((q - 1 : Nat) : Int) := fun _ => by rw [IntKind.wrap_u64]; omega
      have HEM : Hid (1 ≤ q → IntKind.u64.wrap ((q : Int) - 1) = ((q - 1 : Nat) : Int)) := em'
      have HQ : Hid (q ≤ 4294967297 ∧ r < 4294967296 ∧ Q1 ≤ q) := ⟨hq, hr, hge⟩
      clear em' hq hr hge b1 b2 b3 b4 b5 b6 b7 b8 b9 b10 b11 b12
      have HRY : Hid (r < r + y1) := by have := HB.out.1; unfold Hid; omega
      generalize hr2e : r + y1 = r2 at *
      have HR2 : Hid (r + y1 = r2) := hr2e
      generalize hq2e : q - 1 = q2 at *
      have HQ2 : Hid (q - 1 = q2) := hq2e
      clear hr2e hq2e
      by_cases hqK0 : 4294967296 ≤ q
      · have hqK : (4294967296 : Int) ≤ (q : Int) := by omega
        have HA : Hid (Q1 ≤ q2) := by unfold Hid; have := HB.out; have := HQ2.out; omega
        have em := HEM.out (by omega)
        have HQ1' : Hid (4294967296 ≤ q) := hqK0
        clear hqK0
        by_cases hrr0 : 4294967296 ≤ r2
        · have hrr : (4294967296 : Int) ≤ (r2 : Int) := by omega
          have e := HPB.out hrr0 (by have := HQ1'.out; omega) HA.out
          have e2 : q2 = Q1 := by have := HQ2.out; omega
          rw [e2] at em
          clear e e2 hrr0
          go_wp2_with fail
          go_loop [18, 16] (fun qv rv => ∃ q r : Nat, qv = .int .u64 q ∧ rv = .int .u64 r ∧ q ≤ 4294967297 ∧ r < 4294967296 ∧ Hid (q * y1 + r = R) ∧ Q0 ≤ q) (fun _ rv => K32 - (intOf rv).toNat)
          case atStart => exact ⟨q00, r00, rfl, rfl, HB.out.2.2.2.2.2.2.2.1, by have := HB.out; omega, HD2.out, HQ0.out⟩
          case round =>
            obtain ⟨q, r, rfl, rfl, hq, hr, HE, hge⟩ := hrel
            obtain ⟨b1, b2, b3, b4, b5, b6, b7, b8, b9, b10, b11, b12⟩ := HB.out
            have HPB : Hid (4294967296 ≤ r + y1 → 1 ≤ q → Q0 ≤ q - 1 → q = Q0 + 1) := by
              intro a1 a0 a3
              have h5 : (q - 1) * y1 + (r + y1) = R := by
                have := HE.out
                have e : q = (q - 1) + 1 := by omega
                rw [e, Nat.add_mul] at this
                omega
              have h6 := past_base' 4294967296 y1 y0 n0 R (q - 1) (r + y1) h5 (by omega) (by omega) (by omega)
              rw [← HYs.out] at h6
              have h7 : q - 1 ≤ Q0 := by rw [← HQ0e.out]; exact (Nat.le_div_iff_mul_le b12).2 h6
              omega
            have HNX : Hid (1 ≤ q → (q - 1) * y1 + (r + y1) = R) := by
              intro a0
              have := HE.out
              have e : q = (q - 1) + 1 := by omega
              rw [e, Nat.add_mul] at this
              omega
            have er' : IntKind.u64.wrap ((r : Int) + (y1 : Int)) = ((r + y1 : Nat) : Int) := by rw [IntKind.wrap_u64]; omega
            have em' : 1 ≤ q → IntKind.u64.wrap ((q : Int) - 1) = ((q - 1 : Nat) : Int) := fun _ => by rw [IntKind.wrap_u64]; omega
            have HEM : Hid (1 ≤ q → IntKind.u64.wrap ((q : Int) - 1) = ((q - 1 : Nat) : Int)) := em'
            have HQ : Hid (q ≤ 4294967297 ∧ r < 4294967296 ∧ Q0 ≤ q) := ⟨hq, hr, hge⟩
            clear em' hq hr hge b1 b2 b3 b4 b5 b6 b7 b8 b9 b10 b11 b12
            have HRY : Hid (r < r + y1) := by have := HB.out.1; unfold Hid; omega
            generalize hr2e : r + y1 = r2 at *
            have HR2 : Hid (r + y1 = r2) := hr2e
            generalize hq2e : q - 1 = q2 at *
            have HQ2 : Hid (q - 1 = q2) := hq2e
            clear hr2e hq2e
            by_cases hqK0 : 4294967296 ≤ q
            · have hqK : (4294967296 : Int) ≤ (q : Int) := by omega
              have HA : Hid (Q0 ≤ q2) := by unfold Hid; have := HB.out; have := HQ2.out; omega
              have em := HEM.out (by omega)
              have HQ1' : Hid (4294967296 ≤ q) := hqK0
              clear hqK0
              by_cases hrr0 : 4294967296 ≤ r2
              · have hrr : (4294967296 : Int) ≤ (r2 : Int) := by omega
                have e := HPB.out hrr0 (by have := HQ1'.out; omega) HA.out
                have e2 : q2 = Q0 := by have := HQ2.out; omega
                rw [e2] at em
                clear e e2 hrr0
                go_wp2_with fail
                go_ret2
                exact ⟨rfl, 0, rfl⟩
              · have hrr : decide ((4294967296 : Int) ≤ (r2 : Int)) = false := by simp; omega
                have HRR : Hid (r2 < 4294967296) := by unfold Hid; omega
                clear hrr0
                go_wp2_with fail
                refine ⟨⟨q2, r2, rfl, rfl, by have := HQ2.out; have := HQ.out; omega, HRR.out, HNX.out (by have := HQ1'.out; omega), HA.out⟩, ?_⟩
                have := HRY.out
                have := HRR.out
                simp only [intOf, K32]; omega
            · have hqK : decide ((4294967296 : Int) ≤ (q : Int)) = false := by simp; omega
              have HQ1' : Hid (q < 4294967296) := by unfold Hid; omega
              clear hqK0
              have eP : IntKind.u64.wrap ((q : Int) * (y0 : Int)) = ((q * y0 : Nat) : Int) := by
                have hP : q * y0 ≤ 4294967295 * 4294967295 := Nat.mul_le_mul (by have := HQ1'.out; omega) (by have := HB.out; omega)
                rw [← Int.natCast_mul, IntKind.wrap_u64]
                generalize q * y0 = z at *
                omega
              have eS1 : IntKind.u64.wrap (4294967296 * (r : Int)) = ((4294967296 * r : Nat) : Int) := by have := HQ.out; rw [IntKind.wrap_u64]; omega
              have eS2 : IntKind.u64.wrap (((4294967296 * r : Nat) : Int) + (n0 : Int)) = ((4294967296 * r + n0 : Nat) : Int) := by have := HQ.out; have := HB.out; rw [IntKind.wrap_u64]; omega
              have HT := test_iff 4294967296 y1 y0 n0 R q r HE.out
              rw [← HYs.out, Nat.mul_comm r] at HT
              have HT' : Hid (q * y0 ≤ 4294967296 * r + n0 ↔ q * Y ≤ R * 4294967296 + n0) := HT
              clear HT
              generalize 4294967296 * r + n0 = S2 at *
              generalize 4294967296 * r = S1 at *
              generalize q * y0 = P at *
              by_cases hc0 : P ≤ S2
              · have hc : ¬ (S2 : Int) < (P : Int) := by omega
                have e : q = Q0 := by
                  have h7 : q ≤ Q0 := by rw [← HQ0e.out]; exact (Nat.le_div_iff_mul_le HB.out.2.2.2.2.2.2.2.2.2.2.2).2 (HT'.out.1 hc0)
                  have := HQ.out.2.2
                  omega
                subst e
                clear hc0
                go_wp2_with fail
                go_ret2
                exact ⟨rfl, 0, rfl⟩
              · have hc : (S2 : Int) < (P : Int) := by omega
                have HA : Hid (Q0 ≤ q2 ∧ 1 ≤ q) := by
                  have h7 : Q0 < q := by
                    rw [← HQ0e.out, Nat.div_lt_iff_lt_mul HB.out.2.2.2.2.2.2.2.2.2.2.2]
                    have : ¬ q * Y ≤ R * 4294967296 + n0 := fun h => hc0 (HT'.out.2 h)
                    omega
                  have := HQ2.out
                  exact ⟨by omega, by omega⟩
                have em := HEM.out HA.out.2
                clear hc0
                by_cases hrr0 : 4294967296 ≤ r2
                · have hrr : (4294967296 : Int) ≤ (r2 : Int) := by omega
                  have e := HPB.out hrr0 HA.out.2 HA.out.1
                  have e2 : q2 = Q0 := by have := HQ2.out; omega
                  rw [e2] at em
                  clear e e2 hrr0
                  go_wp2_with fail
                  go_ret2
                  exact ⟨rfl, 0, rfl⟩
                · have hrr : decide ((4294967296 : Int) ≤ (r2 : Int)) = false := by simp; omega
                  have HRR : Hid (r2 < 4294967296) := by unfold Hid; omega
                  clear hrr0
                  go_wp2_with fail
                  refine ⟨⟨q2, r2, rfl, rfl, by have := HQ2.out; have := HQ.out; omega, HRR.out, HNX.out HA.out.2, HA.out.1⟩, ?_⟩
                  have := HRY.out
                  have := HRR.out
                  simp only [intOf, K32]; omega

        · have hrr : decide ((4294967296 : Int) ≤ (r2 : Int)) = false := by simp; omega
          have HRR : Hid (r2 < 4294967296) := by unfold Hid; omega
          clear hrr0
          go_wp2_with fail
          refine ⟨⟨q2, r2, rfl, rfl, by have := HQ2.out; have := HQ.out; omega, HRR.out, HNX.out (by have := HQ1'.out; omega), HA.out⟩, ?_⟩
          have := HRY.out
          have := HRR.out
          simp only [intOf, K32]; omega
      · have hqK : decide ((4294967296 : Int) ≤ (q : Int)) = false := by simp; omega
        have HQ1' : Hid (q < 4294967296) := by unfold Hid; omega
        clear hqK0
        have eP : IntKind.u64.wrap ((q : Int) * (y0 : Int)) = ((q * y0 : Nat) : Int) := by
          have hP : q * y0 ≤ 4294967295 * 4294967295 := Nat.mul_le_mul (by have := HQ1'.out; omega) (by have := HB.out; omega)
          rw [← Int.natCast_mul, IntKind.wrap_u64]
          generalize q * y0 = z at *
          omega
        have eS1 : IntKind.u64.wrap (4294967296 * (r : Int)) = ((4294967296 * r : Nat) : Int) := by have := HQ.out; rw [IntKind.wrap_u64]; omega
        have eS2 : IntKind.u64.wrap (((4294967296 * r : Nat) : Int) + (n1 : Int)) = ((4294967296 * r + n1 : Nat) : Int) := by have := HQ.out; have := HB.out; rw [IntKind.wrap_u64]; omega
        have HT := test_iff 4294967296 y1 y0 n1 U q r HE.out
        rw [← HYs.out, Nat.mul_comm r] at HT
        have HT' : Hid (q * y0 ≤ 4294967296 * r + n1 ↔ q * Y ≤ U * 4294967296 + n1) := HT
        clear HT
        generalize 4294967296 * r + n1 = S2 at *
        generalize 4294967296 * r = S1 at *
        generalize q * y0 = P at *
        by_cases hc0 : P ≤ S2
        · have hc : ¬ (S2 : Int) < (P : Int) := by omega
          have e : q = Q1 := by
            have h7 : q ≤ Q1 := by rw [← HQ1e.out]; exact (Nat.le_div_iff_mul_le HB.out.2.2.2.2.2.2.2.2.2.2.2).2 (HT'.out.1 hc0)
            have := HQ.out.2.2
            omega
          subst e
          clear hc0
          go_wp2_with fail
          go_loop [18, 16] (fun qv rv => ∃ q r : Nat, qv = .int .u64 q ∧ rv = .int .u64 r ∧ q ≤ 4294967297 ∧ r < 4294967296 ∧ Hid (q * y1 + r = R) ∧ Q0 ≤ q) (fun _ rv => K32 - (intOf rv).toNat)
          case atStart => exact ⟨q00, r00, rfl, rfl, HB.out.2.2.2.2.2.2.2.1, by have := HB.out; omega, HD2.out, HQ0.out⟩
          case round =>
            obtain ⟨q, r, rfl, rfl, hq, hr, HE, hge⟩ := hrel
            obtain ⟨b1, b2, b3, b4, b5, b6, b7, b8, b9, b10, b11, b12⟩ := HB.out
            have HPB : Hid (4294967296 ≤ r + y1 → 1 ≤ q → Q0 ≤ q - 1 → q = Q0 + 1) := by
              intro a1 a0 a3
              have h5 : (q - 1) * y1 + (r + y1) = R := by
                have := HE.out
                have e : q = (q - 1) + 1 := by omega
                rw [e, Nat.add_mul] at this
                omega
              have h6 := past_base' 4294967296 y1 y0 n0 R (q - 1) (r + y1) h5 (by omega) (by omega) (by omega)
              rw [← HYs.out] at h6
              have h7 : q - 1 ≤ Q0 := by rw [← HQ0e.out]; exact (Nat.le_div_iff_mul_le b12).2 h6
              omega
            have HNX : Hid (1 ≤ q → (q - 1) * y1 + (r + y1) = R) := by
              intro a0
              have := HE.out
              have e : q = (q - 1) + 1 := by omega
              rw [e, Nat.add_mul] at this
              omega
            have er' : IntKind.u64.wrap ((r : Int) + (y1 : Int)) = ((r + y1 : Nat) : Int) := by rw [IntKind.wrap_u64]; omega
            have em' : 1 ≤ q → IntKind.u64.wrap ((q : Int) - 1) = ((q - 1 : Nat) : Int) := fun _ => by rw [IntKind.wrap_u64]; omega
            have HEM : Hid (1 ≤ q → IntKind.u64.wrap ((q : Int) - 1) = ((q - 1 : Nat) : Int)) := em'
            have HQ : Hid (q ≤ 4294967297 ∧ r < 4294967296 ∧ Q0 ≤ q) := ⟨hq, hr, hge⟩
            clear em' hq hr hge b1 b2 b3 b4 b5 b6 b7 b8 b9 b10 b11 b12
            have HRY : Hid (r < r + y1) := by have := HB.out.1; unfold Hid; omega
            generalize hr2e : r + y1 = r2 at *
            have HR2 : Hid (r + y1 = r2) := hr2e
            generalize hq2e : q - 1 = q2 at *
            have HQ2 : Hid (q - 1 = q2) := hq2e
            clear hr2e hq2e
            by_cases hqK0 : 4294967296 ≤ q
            · have hqK : (4294967296 : Int) ≤ (q : Int) := by omega
              have HA : Hid (Q0 ≤ q2) := by unfold Hid; have := HB.out; have := HQ2.out; omega
              have em := HEM.out (by omega)
              have HQ1' : Hid (4294967296 ≤ q) := hqK0
              clear hqK0
              by_cases hrr0 : 4294967296 ≤ r2
              · have hrr : (4294967296 : Int) ≤ (r2 : Int) := by omega
                have e := HPB.out hrr0 (by have := HQ1'.out; omega) HA.out
                have e2 : q2 = Q0 := by have := HQ2.out; omega
                rw [e2] at em
                clear e e2 hrr0
                go_wp2_with fail
                go_ret2
                exact ⟨rfl, 0, rfl⟩
              · have hrr : decide ((4294967296 : Int) ≤ (r2 : Int)) = false := by simp; omega
                have HRR : Hid (r2 < 4294967296) := by unfold Hid; omega
                clear hrr0
                go_wp2_with fail
                refine ⟨⟨q2, r2, rfl, rfl, by have := HQ2.out; have := HQ.out; omega, HRR.out, HNX.out (by have := HQ1'.out; omega), HA.out⟩, ?_⟩
                have := HRY.out
                have := HRR.out
                simp only [intOf, K32]; omega
            · have hqK : decide ((4294967296 : Int) ≤ (q : Int)) = false := by simp; omega
              have HQ1' : Hid (q < 4294967296) := by unfold Hid; omega
              clear hqK0
              have eP : IntKind.u64.wrap ((q : Int) * (y0 : Int)) = ((q * y0 : Nat) : Int) := by
                have hP : q * y0 ≤ 4294967295 * 4294967295 := Nat.mul_le_mul (by have := HQ1'.out; omega) (by have := HB.out; omega)
                rw [← Int.natCast_mul, IntKind.wrap_u64]
                generalize q * y0 = z at *
                omega
              have eS1 : IntKind.u64.wrap (4294967296 * (r : Int)) = ((4294967296 * r : Nat) : Int) := by have := HQ.out; rw [IntKind.wrap_u64]; omega
              have eS2 : IntKind.u64.wrap (((4294967296 * r : Nat) : Int) + (n0 : Int)) = ((4294967296 * r + n0 : Nat) : Int) := by have := HQ.out; have := HB.out; rw [IntKind.wrap_u64]; omega
              have HT := test_iff 4294967296 y1 y0 n0 R q r HE.out
              rw [← HYs.out, Nat.mul_comm r] at HT
              have HT' : Hid (q * y0 ≤ 4294967296 * r + n0 ↔ q * Y ≤ R * 4294967296 + n0) := HT
              clear HT
              generalize 4294967296 * r + n0 = S2 at *
              generalize 4294967296 * r = S1 at *
              generalize q * y0 = P at *
              by_cases hc0 : P ≤ S2
              · have hc : ¬ (S2 : Int) < (P : Int) := by omega
                have e : q = Q0 := by
                  have h7 : q ≤ Q0 := by rw [← HQ0e.out]; exact (Nat.le_div_iff_mul_le HB.out.2.2.2.2.2.2.2.2.2.2.2).2 (HT'.out.1 hc0)
                  have := HQ.out.2.2
                  omega
                subst e
                clear hc0
                go_wp2_with fail
                go_ret2
                exact ⟨rfl, 0, rfl⟩
              · have hc : (S2 : Int) < (P : Int) := by omega
                have HA : Hid (Q0 ≤ q2 ∧ 1 ≤ q) := by
                  have h7 : Q0 < q := by
                    rw [← HQ0e.out, Nat.div_lt_iff_lt_mul HB.out.2.2.2.2.2.2.2.2.2.2.2]
                    have : ¬ q * Y ≤ R * 4294967296 + n0 := fun h => hc0 (HT'.out.2 h)
                    omega
                  have := HQ2.out
                  exact ⟨by omega, by omega⟩
                have em := HEM.out HA.out.2
                clear hc0
                by_cases hrr0 : 4294967296 ≤ r2
                · have hrr : (4294967296 : Int) ≤ (r2 : Int) := by omega
                  have e := HPB.out hrr0 HA.out.2 HA.out.1
                  have e2 : q2 = Q0 := by have := HQ2.out; omega
                  rw [e2] at em
                  clear e e2 hrr0
                  go_wp2_with fail
                  go_ret2
                  exact ⟨rfl, 0, rfl⟩
                · have hrr : decide ((4294967296 : Int) ≤ (r2 : Int)) = false := by simp; omega
                  have HRR : Hid (r2 < 4294967296) := by unfold Hid; omega
                  clear hrr0
                  go_wp2_with fail
                  refine ⟨⟨q2, r2, rfl, rfl, by have := HQ2.out; have := HQ.out; omega, HRR.out, HNX.out HA.out.2, HA.out.1⟩, ?_⟩
                  have := HRY.out
                  have := HRR.out
                  simp only [intOf, K32]; omega

        · have hc : (S2 : Int) < (P : Int) := by omega
          have HA : Hid (Q1 ≤ q2 ∧ 1 ≤ q) := by
            have h7 : Q1 < q := by
              rw [← HQ1e.out, Nat.div_lt_iff_lt_mul HB.out.2.2.2.2.2.2.2.2.2.2.2]
              have : ¬ q * Y ≤ U * 4294967296 + n1 := fun h => hc0 (HT'.out.2 h)
              omega
            have := HQ2.out
            exact ⟨by omega, by omega⟩
          have em := HEM.out HA.out.2
          clear hc0
          by_cases hrr0 : 4294967296 ≤ r2
          · have hrr : (4294967296 : Int) ≤ (r2 : Int) := by omega
            have e := HPB.out hrr0 HA.out.2 HA.out.1
            have e2 : q2 = Q1 := by have := HQ2.out; omega
            rw [e2] at em
            clear e e2 hrr0
            go_wp2_with fail
            go_loop [18, 16] (fun qv rv => ∃ q r : Nat, qv = .int .u64 q ∧ rv = .int .u64 r ∧ q ≤ 4294967297 ∧ r < 4294967296 ∧ Hid (q * y1 + r = R) ∧ Q0 ≤ q) (fun _ rv => K32 - (intOf rv).toNat)
            case atStart => exact ⟨q00, r00, rfl, rfl, HB.out.2.2.2.2.2.2.2.1, by have := HB.out; omega, HD2.out, HQ0.out⟩
            case round =>
              obtain ⟨q, r, rfl, rfl, hq, hr, HE, hge⟩ := hrel
              obtain ⟨b1, b2, b3, b4, b5, b6, b7, b8, b9, b10, b11, b12⟩ := HB.out
              have HPB : Hid (4294967296 ≤ r + y1 → 1 ≤ q → Q0 ≤ q - 1 → q = Q0 + 1) := by
                intro a1 a0 a3
                have h5 : (q - 1) * y1 + (r + y1) = R := by
                  have := HE.out
                  have e : q = (q - 1) + 1 := by omega
                  rw [e, Nat.add_mul] at this
                  omega
                have h6 := past_base' 4294967296 y1 y0 n0 R (q - 1) (r + y1) h5 (by omega) (by omega) (by omega)
                rw [← HYs.out] at h6
                have h7 : q - 1 ≤ Q0 := by rw [← HQ0e.out]; exact (Nat.le_div_iff_mul_le b12).2 h6
                omega
              have HNX : Hid (1 ≤ q → (q - 1) * y1 + (r + y1) = R) := by
                intro a0
                have := HE.out
                have e : q = (q - 1) + 1 := by omega
                rw [e, Nat.add_mul] at this
                omega
              have er' : IntKind.u64.wrap ((r : Int) + (y1 : Int)) = ((r + y1 : Nat) : Int) := by rw [IntKind.wrap_u64]; omega
              have em' : 1 ≤ q → IntKind.u64.wrap ((q : Int) - 1) = ((q - 1 : Nat) : Int) := fun _ => by rw [IntKind.wrap_u64]; omega
              have HEM : Hid (1 ≤ q → IntKind.u64.wrap ((q : Int) - 1) = ((q - 1 : Nat) : Int)) := em'
              have HQ : Hid (q ≤ 4294967297 ∧ r < 4294967296 ∧ Q0 ≤ q) := ⟨hq, hr, hge⟩
              clear em' hq hr hge b1 b2 b3 b4 b5 b6 b7 b8 b9 b10 b11 b12
              have HRY : Hid (r < r + y1) := by have := HB.out.1; unfold Hid; omega
              generalize hr2e : r + y1 = r2 at *
              have HR2 : Hid (r + y1 = r2) := hr2e
              generalize hq2e : q - 1 = q2 at *
              have HQ2 : Hid (q - 1 = q2) := hq2e
              clear hr2e hq2e
              by_cases hqK0 : 4294967296 ≤ q
              · have hqK : (4294967296 : Int) ≤ (q : Int) := by omega
                have HA : Hid (Q0 ≤ q2) := by unfold Hid; have := HB.out; have := HQ2.out; omega
                have em := HEM.out (by omega)
                have HQ1' : Hid (4294967296 ≤ q) := hqK0
                clear hqK0
                by_cases hrr0 : 4294967296 ≤ r2
                · have hrr : (4294967296 : Int) ≤ (r2 : Int) := by omega
                  have e := HPB.out hrr0 (by have := HQ1'.out; omega) HA.out
                  have e2 : q2 = Q0 := by have := HQ2.out; omega
                  rw [e2] at em
                  clear e e2 hrr0
                  go_wp2_with fail
                  go_ret2
                  exact ⟨rfl, 0, rfl⟩
                · have hrr : decide ((4294967296 : Int) ≤ (r2 : Int)) = false := by simp; omega
                  have HRR : Hid (r2 < 4294967296) := by unfold Hid; omega
                  clear hrr0
                  go_wp2_with fail
                  refine ⟨⟨q2, r2, rfl, rfl, by have := HQ2.out; have := HQ.out; omega, HRR.out, HNX.out (by have := HQ1'.out; omega), HA.out⟩, ?_⟩
                  have := HRY.out
                  have := HRR.out
                  simp only [intOf, K32]; omega
              · have hqK : decide ((4294967296 : Int) ≤ (q : Int)) = false := by simp; omega
                have HQ1' : Hid (q < 4294967296) := by unfold Hid; omega
                clear hqK0
                have eP : IntKind.u64.wrap ((q : Int) * (y0 : Int)) = ((q * y0 : Nat) : Int) := by
                  have hP : q * y0 ≤ 4294967295 * 4294967295 := Nat.mul_le_mul (by have := HQ1'.out; omega) (by have := HB.out; omega)
                  rw [← Int.natCast_mul, IntKind.wrap_u64]
                  generalize q * y0 = z at *
                  omega
                have eS1 : IntKind.u64.wrap (4294967296 * (r : Int)) = ((4294967296 * r : Nat) : Int) := by have := HQ.out; rw [IntKind.wrap_u64]; omega
                have eS2 : IntKind.u64.wrap (((4294967296 * r : Nat) : Int) + (n0 : Int)) = ((4294967296 * r + n0 : Nat) : Int) := by have := HQ.out; have := HB.out; rw [IntKind.wrap_u64]; omega
                have HT := test_iff 4294967296 y1 y0 n0 R q r HE.out
                rw [← HYs.out, Nat.mul_comm r] at HT
                have HT' : Hid (q * y0 ≤ 4294967296 * r + n0 ↔ q * Y ≤ R * 4294967296 + n0) := HT
                clear HT
                generalize 4294967296 * r + n0 = S2 at *
                generalize 4294967296 * r = S1 at *
                generalize q * y0 = P at *
                by_cases hc0 : P ≤ S2
                · have hc : ¬ (S2 : Int) < (P : Int) := by omega
                  have e : q = Q0 := by
                    have h7 : q ≤ Q0 := by rw [← HQ0e.out]; exact (Nat.le_div_iff_mul_le HB.out.2.2.2.2.2.2.2.2.2.2.2).2 (HT'.out.1 hc0)
                    have := HQ.out.2.2
                    omega
                  subst e
                  clear hc0
                  go_wp2_with fail
                  go_ret2
                  exact ⟨rfl, 0, rfl⟩
                · have hc : (S2 : Int) < (P : Int) := by omega
                  have HA : Hid (Q0 ≤ q2 ∧ 1 ≤ q) := by
                    have h7 : Q0 < q := by
                      rw [← HQ0e.out, Nat.div_lt_iff_lt_mul HB.out.2.2.2.2.2.2.2.2.2.2.2]
                      have : ¬ q * Y ≤ R * 4294967296 + n0 := fun h => hc0 (HT'.out.2 h)
                      omega
                    have := HQ2.out
                    exact ⟨by omega, by omega⟩
                  have em := HEM.out HA.out.2
                  clear hc0
                  by_cases hrr0 : 4294967296 ≤ r2
                  · have hrr : (4294967296 : Int) ≤ (r2 : Int) := by omega
                    have e := HPB.out hrr0 HA.out.2 HA.out.1
                    have e2 : q2 = Q0 := by have := HQ2.out; omega
                    rw [e2] at em
                    clear e e2 hrr0
                    go_wp2_with fail
                    go_ret2
                    exact ⟨rfl, 0, rfl⟩
                  · have hrr : decide ((4294967296 : Int) ≤ (r2 : Int)) = false := by simp; omega
                    have HRR : Hid (r2 < 4294967296) := by unfold Hid; omega
                    clear hrr0
                    go_wp2_with fail
                    refine ⟨⟨q2, r2, rfl, rfl, by have := HQ2.out; have := HQ.out; omega, HRR.out, HNX.out HA.out.2, HA.out.1⟩, ?_⟩
                    have := HRY.out
                    have := HRR.out
                    simp only [intOf, K32]; omega

          · have hrr : decide ((4294967296 : Int) ≤ (r2 : Int)) = false := by simp; omega
            have HRR : Hid (r2 < 4294967296) := by unfold Hid; omega
            clear hrr0
            go_wp2_with fail
            refine ⟨⟨q2, r2, rfl, rfl, by have := HQ2.out; have := HQ.out; omega, HRR.out, HNX.out HA.out.2, HA.out.1⟩, ?_⟩
            have := HRY.out
            have := HRR.out
            simp only [intOf, K32]; omega

end Go.Proofs.Ygcsan
