/-
  Package u256: WideMid, round, RoundWide.
-/
import Derived.Test.YgcsanMid
namespace Go.Proofs.Ygcsan
open Go.RowKit
set_option linter.unusedSimpArgs false
set_option linter.unusedVariables false

set_option maxRecDepth 10000 in
set_option maxHeartbeats 4000000 in
theorem wideMid_any (bu bv n j : Nat) (tu tv : TypeId) (L V : List Nat) (w : World) (hL : IB w bu .u64 tu L) (hV : IB w bv .u64 tv V) (lL : L.length = 17) (lV : V.length = 8) (dL : Dg W64 L) (dV : Dg W64 V)
    (hn1 : 2 ≤ n) (hn2 : n ≤ 8) (hj : j + n ≤ 16) (hlc : lcF V 8 = n) (htop : H63 ≤ V.getD (n - 1) 0) (hz : ∀ p, j + n < p → L.getD p 0 = 0) (hlt : val W64 ((L.drop (j + 1)).take n) < val W64 (V.take n)) :
    Calls Sang.prog 79 #[.pointer (some ⟨bu, 0, none⟩), .pointer (some ⟨bv, 0, none⟩), .int .u8 (n : Int), .int .u8 (j : Int)] w fun e w' => e = .returned (.bool true) ∧ Fr w.heap.size no w w' := by
  have hlim := limbs_any bv tv V w hV lV
  rw [hlc] at hlim
  have hmid : ∀ w1, Fr w.heap.size no w w1 → Calls Sang.prog 110 #[.slice (some ⟨bu, 0, none⟩) 17 17, .slice (some ⟨bv, 0, none⟩) 8 8, .int .u8 (n : Int), .int .u8 (j : Int)] w1 fun e w' => e = .returned (.bool true) ∧ Fr w1.heap.size no w1 w' :=
    fun w1 hf => midHolds_any bu bv n j tu tv L V w1 (hL.fr hf hL.lt (fun x => x)) (hV.fr hf hV.lt (fun x => x)) lL lV dL dV hn1 hn2 hj htop hz hlt
  have h1 : ¬ (n : Int) < 2 := by omega
  have h2 : ¬ (8 : Int) < (n : Int) := by omega
  have h3 : ¬ (16 : Int) - (n : Int) < (j : Int) := by omega
  have HMid : Hid _ := hmid
  clear hz hlt hlc htop hmid
  go_enter Sang.func79, Sang.ntmps79
  go_wp2_with fail
  refine hlim.mono ?_
  rintro e w ⟨rfl, rfl⟩
  go_wp2_with fail
  go_region_with (go_at_call 110; refine (HMid.out _ ((Fr.refl _ _ _).drew)).mono ?_; rintro e w' ⟨rfl, hf⟩)
  go_wp2
  go_ret
  exact ⟨rfl, (Fr.refl _ _ _).drew.step hf (Nat.le_refl _) (fun _ _ x => x)⟩

set_option maxRecDepth 10000 in
set_option maxHeartbeats 4000000 in
theorem round_any (bu bv n o : Nat) (tu tv : TypeId) (L V : List Nat) (w : World) (hL : IB w bu .u64 tu L) (hV : IB w bv .u64 tv V) (hne : bv ≠ bu) (lL : L.length = 17) (lV : V.length = 8) (dL : Dg W64 L) (dV : Dg W64 V)
    (hn1 : 2 ≤ n) (hn2 : n ≤ 8) (ho : o + n ≤ 16) (hVn : val W64 (V.take n) = val W64 V) (htop : H63 ≤ V.getD (n - 1) 0) (hX : val W64 L < val W64 V * W64 ^ (o + 1)) :
    Calls Sang.prog 80 #[.slice (some ⟨bu, o, none⟩) (n + 1) (n + 1), .slice (some ⟨bv, 0, none⟩) n n] w fun e w' => (∃ q : Nat, e = .returned (.tuple #[.int .u64 (q : Int), .int .u8 (rdFix L V n o : Nat), .bool (rdBack L V n o)])) ∧
      IB w' bu .u64 tu (limbs W64 17 (val W64 L % (val W64 V * W64 ^ o))) ∧ Fr w.heap.size (fun k => k = bu) w w' := by
  have hVlt : val W64 V < W64 ^ n := by
    rw [← hVn]
    have := val_lt (dV.take n)
    rwa [show (V.take n).length = n by simp; omega] at this
  obtain ⟨f1, f2, f3, f4, f5⟩ := rd_facts (n := n) (o := o) dL dV hn1 hVlt htop hX
  have HF : Hid (val W64 L / (val W64 V * W64 ^ o) ≤ rdQ L V n o ∧ rdQ L V n o ≤ val W64 L / (val W64 V * W64 ^ o) + 1) := ⟨f2, f3⟩
  have HZ : Hid (∀ p, o + n < p → L.getD p 0 = 0) := f4
  have hqW : rdQ L V n o < W64 := rdQ_lt L V n o
  obtain ⟨c1, E1, k1⟩ : ∃ c : Nat, Hid (L.getD (o + n) 0 = c) ∧ w.cell? ⟨bu, o + n, none⟩ = some (.int .u64 (c : Int)) := ⟨_, rfl, hL.cell _ (by omega)⟩
  obtain ⟨c2, E2, k2⟩ : ∃ c : Nat, Hid (L.getD (o + n - 1) 0 = c) ∧ w.cell? ⟨bu, o + (n - 1), none⟩ = some (.int .u64 (c : Int)) := ⟨_, rfl, by rw [show o + n - 1 = o + (n - 1) by omega]; exact hL.cell _ (by omega)⟩
  obtain ⟨c3, E3, k3⟩ : ∃ c : Nat, Hid (L.getD (o + n - 2) 0 = c) ∧ w.cell? ⟨bu, o + (n - 2), none⟩ = some (.int .u64 (c : Int)) := ⟨_, rfl, by rw [show o + n - 2 = o + (n - 2) by omega]; exact hL.cell _ (by omega)⟩
  obtain ⟨c4, E4, k4⟩ : ∃ c : Nat, Hid (V.getD (n - 1) 0 = c) ∧ w.cell? ⟨bv, n - 1, none⟩ = some (.int .u64 (c : Int)) := ⟨_, rfl, hV.cell _ (by omega)⟩
  obtain ⟨c5, E5, k5⟩ : ∃ c : Nat, Hid (V.getD (n - 2) 0 = c) ∧ w.cell? ⟨bv, n - 2, none⟩ = some (.int .u64 (c : Int)) := ⟨_, rfl, hV.cell _ (by omega)⟩
  have htr : ∀ w1, Calls Sang.prog 111 #[.int .u64 (c1 : Int), .int .u64 (c2 : Int), .int .u64 (c3 : Int), .int .u64 (c4 : Int), .int .u64 (c5 : Int)] w1 fun e w' => e = .returned (.tuple #[.int .u64 (rdQ L V n o : Nat), .int .u8 (rdFix L V n o : Nat)]) ∧ ∃ m, w' = w1.drewN m := by
    intro w1
    have := trial_any c1 c2 c3 c4 c5 (guess c1 c2 c4) (by rw [← E1.out]; exact dL.getD W64_pos _) (by rw [← E2.out]; exact dL.getD W64_pos _) (by rw [← E3.out]; exact dL.getD W64_pos _) (by rw [← E4.out]; exact dV.getD W64_pos _) (by rw [← E5.out]; exact dV.getD W64_pos _)
      (by rw [← E4.out]; exact htop) (by rw [← E1.out, ← E4.out]; exact f1) rfl w1
    have e1 : qhat W64 c4 c5 c3 (c1 * W64 + c2) = rdQ L V n o := by unfold rdQ; rw [E1.out, E2.out, E3.out, E4.out, E5.out]
    have e2 : guess c1 c2 c4 - qhat W64 c4 c5 c3 (c1 * W64 + c2) = rdFix L V n o := by rw [e1]; unfold rdFix; rw [E1.out, E2.out, E4.out]
    rw [e2, e1] at this
    exact this
  have HTR : Hid (∀ w1, Calls Sang.prog 111 #[.int .u64 (c1 : Int), .int .u64 (c2 : Int), .int .u64 (c3 : Int), .int .u64 (c4 : Int), .int .u64 (c5 : Int)] w1 fun e w' => e = .returned (.tuple #[.int .u64 (rdQ L V n o : Nat), .int .u8 (rdFix L V n o : Nat)]) ∧ ∃ m, w' = w1.drewN m) := htr
  clear htr f1 f2 f3 f4 f5
  generalize hq : rdQ L V n o = q at *
  generalize rdFix L V n o = fx at *
  have HQ : Hid (rdQ L V n o = q) := hq
  have HX : Hid (val W64 L < val W64 V * W64 ^ (o + 1)) := hX
  have HVn : Hid (val W64 (V.take n) = val W64 V ∧ val W64 V < W64 ^ n) := ⟨hVn, hVlt⟩
  have HTop : Hid (H63 ≤ V.getD (n - 1) 0) := htop
  clear hq hX hVn hVlt htop
  have hi1 : (1 : Int) ≤ (n : Int) := by omega
  have hi2 : (2 : Int) ≤ (n : Int) := by omega
  go_enter Sang.func80, Sang.ntmps80
  go_wp2
  go_quiet ((go_at_call 111; exact Calls.quiet_of (HTR.out _)))
  go_wp2_with fail
  refine (takeTimes_any bu bv o n (n + 1) n tu tv L V q _ (hL.drewN _) (hV.drewN _) hne dL dV hqW (by omega) (by omega) (by omega) (by omega) (by omega) (by omega)).mono ?_
  rintro e w2 ⟨L1, b, rfl, hb, hL1, lL1, dL1, hv1, hp1, hf1⟩
  have hf2 : Fr w.heap.size (fun k => k = bu) w w2 := ((Fr.refl _ _ _).drewN _).step hf1 (Nat.le_refl _) (fun _ _ x => x)
  rw [HVn.out.1] at hv1
  have HD : Hid (0 < val W64 V * W64 ^ o) := by
    have h1 : 0 < val W64 V := by
      rcases Nat.eq_zero_or_pos (val W64 V) with h | h
      · have := HX.out; rw [h, Nat.zero_mul] at this; omega
      · exact h
    exact Nat.mul_pos h1 (Nat.pow_pos W64_pos)
  have eD : q * val W64 V * W64 ^ o = q * (val W64 V * W64 ^ o) := Nat.mul_assoc _ _ _
  rw [eD] at hv1
  have HL1lt : Hid (val W64 L1 < W64 ^ (o + n + 1)) := by
    have h1 := val_split W64 L1 (o + n + 1) (by omega)
    have h2 := val_lt (dL1.take (o + n + 1))
    rw [show (L1.take (o + n + 1)).length = o + n + 1 by simp; omega] at h2
    have h3 : val W64 (L1.drop (o + n + 1)) = 0 := by
      apply val_zeros
      intro d hd
      obtain ⟨i, hi, rfl⟩ := List.getElem_of_mem hd
      simp only [List.length_drop] at hi
      have := hp1 (o + n + 1 + i) (by omega)
      rw [HZ.out _ (by omega)] at this
      rw [List.getElem_drop]
      simpa [List.getD, show o + n + 1 + i < L1.length by omega] using this
    unfold Hid
    rw [h1, h3, Nat.mul_zero, Nat.add_zero]
    exact h2
  have HQ2 : Hid (rdBack L V n o = decide (val W64 L < q * (val W64 V * W64 ^ o))) := by unfold Hid rdBack; rw [HQ.out]
  by_cases hb0 : b = 0
  · subst hb0
    have HR := rd_right HD.out HF.out.1 (r := val W64 L1) (by rw [Nat.zero_mul, Nat.add_zero] at hv1; exact hv1)
    have HRR : Hid (val W64 L1 = val W64 L % (val W64 V * W64 ^ o) ∧ rdBack L V n o = false) := by
      refine ⟨HR.1, ?_⟩
      rw [HQ2.out]
      exact decide_eq_false HR.2.2
    clear HR hv1 eD
    go_wp2_with fail
    go_ret3
    refine ⟨⟨q, ?_⟩, ?_, hf2⟩
    · rw [HRR.out.2]; rfl
    · rw [← eq_limbs dL1 17 _ (by omega) HRR.out.1]; exact hL1
  · have hb1 : b = 1 := by omega
    subst hb1
    have hq1 : 1 ≤ q := by
      rcases Nat.eq_zero_or_pos q with h | h
      · subst h
        rw [Nat.zero_mul, Nat.add_zero, Nat.one_mul] at hv1
        have := HL1lt.out
        omega
      · exact h
    have em : IntKind.u64.wrap ((q : Int) - 1) = ((q - 1 : Nat) : Int) := by
      rw [W64_eq] at hqW
      rw [IntKind.wrap_u64]; omega
    generalize q - 1 = q' at em
    have HV1 : Hid (val W64 L1 + q * (val W64 V * W64 ^ o) = val W64 L + 1 * W64 ^ (o + n + 1)) := hv1
    clear hv1 eD hb0
    go_wp2_with fail
    refine (putBack_any bu bv o n (n + 1) n tu tv L1 V _ hL1 (hV.fr hf2 hV.lt hne) hne dL1 dV (by omega) (by omega) (by omega) (by omega) (by omega) (by omega)).mono ?_
    rintro e w3 ⟨rfl, L2, k, hk, hL2, lL2, dL2, hv2, hp2, hf3⟩
    have HL2lt : Hid (val W64 L2 < W64 ^ (o + n + 1)) := by
      have h1 := val_split W64 L2 (o + n + 1) (by omega)
      have h2 := val_lt (dL2.take (o + n + 1))
      rw [show (L2.take (o + n + 1)).length = o + n + 1 by simp; omega] at h2
      have h3 : val W64 (L2.drop (o + n + 1)) = 0 := by
        apply val_zeros
        intro d hd
        obtain ⟨i, hi, rfl⟩ := List.getElem_of_mem hd
        simp only [List.length_drop] at hi
        have := hp2 (o + n + 1 + i) (by omega)
        rw [hp1 (o + n + 1 + i) (by omega), HZ.out _ (by omega)] at this
        rw [List.getElem_drop]
        simpa [List.getD, show o + n + 1 + i < L2.length by omega] using this
      unfold Hid
      rw [h1, h3, Nat.mul_zero, Nat.add_zero]
      exact h2
    have HRR : Hid (val W64 L2 = val W64 L % (val W64 V * W64 ^ o) ∧ rdBack L V n o = true) := by
      rw [HVn.out.1] at hv2
      have hDT : val W64 V * W64 ^ o < W64 ^ (o + n + 1) := by
        have h1 : val W64 V * W64 ^ o < W64 ^ n * W64 ^ o := Nat.mul_lt_mul_of_pos_right HVn.out.2 (Nat.pow_pos W64_pos)
        rw [← Nat.pow_add] at h1
        exact Nat.lt_of_lt_of_le h1 (Nat.pow_le_pow_right W64_pos (by omega))
      have := rd_back HD.out HF.out.2 (by have := HV1.out; rw [Nat.one_mul] at this; exact this) HL1lt.out hk hv2 HL2lt.out hDT
      exact ⟨this.1, by rw [HQ2.out]; exact decide_eq_true this.2⟩
    clear hv2
    go_wp2_with fail
    go_ret3
    refine ⟨⟨q', ?_⟩, ?_, hf2.step hf3 hf2.size (fun _ _ x => x)⟩
    · rw [HRR.out.2]; rfl
    · rw [← eq_limbs dL2 17 _ (by omega) HRR.out.1]; exact hL2
end Go.Proofs.Ygcsan
