/-
  Package yp: ModExp.
-/
import Derived.Test.YgcsanGreatBit
import Derived.Test.YgcsanGreatRm
namespace Go.Proofs.YgcsanGreat
open Go.RowKit
set_option linter.unusedSimpArgs false
set_option linter.unusedVariables false

theorem prod_room {a b : Nat} (ha : a < W64 ^ 8) (hb : b < W64 ^ 8) : a * b < W64 ^ 16 := by
  rw [show (16 : Nat) = 8 + 8 from rfl, Nat.pow_add]
  exact Nat.mul_lt_mul'' ha hb

theorem mulN_any (va vb : Value) (a b : Nat) (w : World) (h1 : Sl w .u8 va (digs a)) (h2 : Sl w .u8 vb (digs b)) (ha : a < W64 ^ 8) (hb : b < W64 ^ 8) :
    Calls Sang.prog 80 #[va, vb] w fun e w' => ∃ v', e = .returned v' ∧ Sl w' .u8 v' (digs (a * b)) ∧ Fr w.heap.size no w w' := by
  have := mul_any va vb _ _ w h1 (digs_dg _) h2 (digs_dg _) (Nat.le_trans (digs_room _ 8 ha) (by decide)) (Nat.le_trans (digs_room _ 8 hb) (by decide))
  rw [val_digs, val_digs] at this
  exact this

theorem powF_room (b e m : Nat) (hm : m < W64 ^ 8) : powF b e m < W64 ^ 8 := remF_lt _ _ hm

set_option maxRecDepth 10000 in
set_option maxHeartbeats 1000000 in
theorem ypPow_any (vb ve vm : Value) (B E M : Nat) (w : World) (hb : Sl w .u8 vb (digs B)) (he : Sl w .u8 ve (digs E)) (hm : Sl w .u8 vm (digs M)) (rB : B < W64 ^ 8) (rM : M < W64 ^ 8) (lE : (digs E).length ≤ 8192) :
    Calls Sang.prog 181 #[vb, ve, vm] w fun e w' => ∃ v', e = .returned v' ∧ Sl w' .u8 v' (digs (powF B E M)) ∧ Fr w.heap.size no w w' := by
  have HB : Hid (B < W64 ^ 8) := rB
  have HM : Hid (M < W64 ^ 8) := rM
  have HDM := fun w vx X h1 h2 h3 => divMod_all vx vm X M w h1 h2 h3 HM.out
  have HDM : Hid (∀ (w : World) (vx : Value) (X : Nat), Sl w .u8 vx (digs X) → Sl w .u8 vm (digs M) → X < W64 ^ 16 → Calls Sang.prog 142 #[vx, vm] w fun e w' => ∃ vq vr ok, e = .returned (.tuple #[vq, vr, .bool ok]) ∧ Sl w' .u8 vr (digs (remF X M)) ∧ Fr w.heap.size no w w') := HDM
  have HSb : Hid (Sl w .u8 vb (digs B)) := hb
  have HSe : Hid (Sl w .u8 ve (digs E)) := he
  have HSm : Hid (Sl w .u8 vm (digs M)) := hm
  have HR : Hid (∀ e, powF B e M < W64 ^ 8) := fun e => powF_room B e M rM
  have HN : Hid (E / 2 ^ bitsF E (8 * (digs E).length) = 0) := by
    unfold Hid
    refine bitsF_shift E _ ?_
    refine Nat.div_eq_of_lt ?_
    rw [Nat.pow_mul]
    exact (digs_length_le _ _).1 (Nat.le_refl _)
  have hNle : bitsF E (8 * (digs E).length) ≤ 65536 := Nat.le_trans (bitsF_le _ _) (by omega)
  have HBi := fun w h => bits_any ve (digs E) E w h (digs_dg _) (val_digs _) lE
  have HBi : Hid (∀ w, Sl w .u8 ve (digs E) → Calls Sang.prog 179 #[ve] w fun e w' => e = .returned (.int .u64 (bitsF E (8 * (digs E).length) : Nat)) ∧ w' = w) := HBi
  have HBit : Hid (∀ (w : World) (i : Nat), Sl w .u8 ve (digs E) → i < 65536 → Calls Sang.prog 199 #[ve, .int .u16 (i : Int)] w fun e w' => e = .returned (.bool (decide (E / 2 ^ i % 2 = 1))) ∧ w' = w) := fun w i h hi => bit_any ve (digs E) E i w h (digs_dg _) (val_digs _) hi
  generalize bitsF E (8 * (digs E).length) = N at *
  clear hb he hm rB rM lE
  go_enter Sang.func181, Sang.ntmps181
  go_wp2_with fail
  refine (num_any 1 _ (by decide)).mono ?_
  rintro e w1 ⟨v1, rfl, hv1, hf1⟩
  go_wp2_with fail
  refine (HDM.out w1 v1 1 hv1 (HSm.out.fr hf1) (by decide)).mono ?_
  rintro e w2 ⟨vq, vr, ok, rfl, hvr, hf2⟩
  have hf2' : Fr w.heap.size no w w2 := hf1.step hf2 hf1.size (fun _ _ x => x)
  clear hf1 hf2 hv1
  go_wp2_with fail
  refine (HBi.out w2 (HSe.out.fr hf2')).mono ?_
  rintro e w2 ⟨rfl, rfl⟩
  go_wp2_with fail
  go_loopw [10, 8] (fun iv rv wr => ∃ i : Nat, i ≤ N ∧ iv = .int .u64 (i : Int) ∧ Hid (Sl wr .u8 rv (digs (powF B (E / 2 ^ i) M))) ∧ Hid (Fr w.heap.size no w wr)) (fun i _ _ => (intOf i).toNat)
  case atStart =>
    refine ⟨N, Nat.le_refl _, rfl, ?_, hf2'⟩
    unfold Hid
    rw [HN.out]
    exact hvr
  case round =>
    obtain ⟨i, hi, rfl, hr, hf⟩ := hrel
    clear hvr hf2'
    cases i with
    | zero =>
      go_wp2_with fail
      go_ret
      refine ⟨_, rfl, ?_, hf.out⟩
      have := hr.out
      rw [Nat.pow_zero, Nat.div_one] at this
      exact this
    | succ k =>
      have e1 : ((k + 1 : Nat) : Int) - 1 = (k : Int) := by omega
      go_wp2_with fail
      refine (mulN_any _ _ _ _ wr hr.out hr.out (HR.out _) (HR.out _)).mono ?_
      rintro e w3 ⟨v3, rfl, hv3, hf3⟩
      have hfw3 := hf.out.step hf3 hf.out.size (fun _ _ x => x)
      clear hf3
      go_wp2_with fail
      refine (HDM.out w3 v3 _ hv3 (HSm.out.fr hfw3) (prod_room (HR.out _) (HR.out _))).mono ?_
      rintro e w4 ⟨vq4, vr4, ok4, rfl, hvr4, hf4⟩
      have hfw4 := hfw3.step hf4 hfw3.size (fun _ _ x => x)
      rw [powF_sq] at hvr4
      clear hf4 hfw3 hv3
      go_wp2_with fail
      refine (HBit.out w4 k (HSe.out.fr hfw4) (by omega)).mono ?_
      rintro e w4 ⟨rfl, rfl⟩
      by_cases hb : E / 2 ^ k % 2 = 1
      · have hb' : decide (E / 2 ^ k % 2 = 1) = true := by simpa using hb
        have HB1 : Hid (E / 2 ^ k = 2 * (E / 2 ^ (k + 1)) + 1) := shift_bit1 hb
        rw [hb']
        clear hb hb'
        go_wp2_with fail
        refine (mulN_any _ _ _ _ w4 hvr4 (HSb.out.fr hfw4) (HR.out _) HB.out).mono ?_
        rintro e w5 ⟨v5, rfl, hv5, hf5⟩
        have hfw5 := hfw4.step hf5 hfw4.size (fun _ _ x => x)
        clear hf5 hfw4
        go_wp2_with fail
        refine (HDM.out w5 v5 _ hv5 (HSm.out.fr hfw5) (prod_room (HR.out _) HB.out)).mono ?_
        rintro e w6 ⟨vq6, vr6, ok6, rfl, hvr6, hf6⟩
        have hfw6 := hfw5.step hf6 hfw5.size (fun _ _ x => x)
        rw [powF_mul, ← HB1.out] at hvr6
        go_wp2_with fail
        exact ⟨⟨k, by omega, by simp, hvr6, hfw6⟩, by simp [intOf]⟩
      · have hb' : decide (E / 2 ^ k % 2 = 1) = false := by simpa using hb
        have HB1 : Hid (E / 2 ^ k = 2 * (E / 2 ^ (k + 1))) := shift_bit0 (by omega)
        rw [hb']
        clear hb hb'
        rw [← HB1.out] at hvr4
        go_wp2_with fail
        exact ⟨⟨k, by omega, by simp, hvr4, hfw4⟩, by simp [intOf]⟩
end Go.Proofs.YgcsanGreat
