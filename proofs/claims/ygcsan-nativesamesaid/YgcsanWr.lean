/-
  Package law: widePathOf whole, rem1024Holds.
-/
import Derived.Test.YgcsanPathB
import Derived.Test.YgcsanRem
namespace Go.Proofs.Ygcsan
open Go.RowKit
set_option linter.unusedSimpArgs false
set_option linter.unusedVariables false

theorem widePath_any (vx vy : Value) (X M : Nat) (w : World) (hx : Sl w .u8 vx (digs X)) (hy : Sl w .u8 vy (digs M)) (hX : X < W64 ^ 16) (hM : M < W64 ^ 8) :
    Calls Sang.prog 39 #[vx, vy] w fun e w' => e = .returned (.agg (ints .u8 (pathA X M))) ∧ Fr w.heap.size no w w' := by
  by_cases h0 : nlim M = 0 ∨ nlim X < nlim M
  · have ep : pathA X M = [0, 0, 0] := by unfold pathA; exact if_pos h0
    rw [ep]
    exact path_none vx vy X M w hx hy hX hM h0
  by_cases h1 : nlim M = 1
  · have ep : pathA X M = [nlim X, 0, 0] := by
      unfold pathA
      rw [if_neg h0, if_pos h1, h1, show nlim X - 1 + 1 = nlim X by omega]
    rw [ep]
    exact path_one vx vy X M w hx hy hX hM h1 (by omega)
  · have ep : pathA X M = pathF (nlim X) (nlim M) (sOf (nlim M) M) X M := by
      unfold pathA
      rw [if_neg h0, if_neg h1]
    rw [ep]
    exact path_many vx vy X M w hx hy hX hM (nlim X) (nlim M) rfl rfl (by omega) (by omega)

theorem divMod_all (vx vy : Value) (X M : Nat) (w : World) (hx : Sl w .u8 vx (digs X)) (hy : Sl w .u8 vy (digs M)) (hX : X < W64 ^ 16) (hM : M < W64 ^ 8) :
    Calls Sang.prog 38 #[vx, vy] w fun e w' => ∃ vq vr ok, e = .returned (.tuple #[vq, vr, .bool ok]) ∧ Sl w' .u8 vr (digs (remF X M)) ∧ Fr w.heap.size no w w' := by
  by_cases h0 : M = 0
  · refine (divMod_zero vx vy (digs X) (digs M) w hx (digs_dg _) hy (digs_dg _) (by rw [val_digs, h0])).mono ?_
    rintro e w' ⟨rfl, rfl⟩
    refine ⟨_, _, _, rfl, ?_, Fr.refl _ _ _⟩
    have : remF X M = 0 := by unfold remF; exact if_pos h0
    rw [this, digs_zero]
    exact Sl.nil _ _
  · have b1 := digs_room X 16 hX
    have b2 := digs_room M 8 hM
    refine (divMod_any vx vy (digs X) (digs M) w hx (digs_dg _) hy (digs_dg _) (by omega) (by omega) (by rw [val_digs]; exact h0)).mono ?_
    rintro e w' ⟨vq, vr, rfl, -, hr, hf⟩
    rw [val_digs, val_digs] at hr
    have : remF X M = X % M := by unfold remF; exact if_neg h0
    exact ⟨vq, vr, true, rfl, by rw [this]; exact hr, hf⟩

theorem pathA_three (X M : Nat) : ∃ a b c, pathA X M = [a, b, c] := by
  unfold pathA
  split
  · exact ⟨_, _, _, rfl⟩
  · split
    · exact ⟨_, _, _, rfl⟩
    · exact ⟨_, _, _, rfl⟩

theorem remF_lt (X M : Nat) (hM : M < W64 ^ 8) : remF X M < W64 ^ 8 := by
  unfold remF
  split
  · exact Nat.pow_pos W64_pos
  · exact Nat.lt_trans (Nat.mod_lt _ (by omega)) hM

set_option maxRecDepth 10000 in
set_option maxHeartbeats 4000000 in
theorem remHolds_any (vx vy : Value) (X M : Nat) (w : World) (hx : Sl w .u8 vx (digs X)) (hy : Sl w .u8 vy (digs M)) (hX : X < W64 ^ 16) (hM : M < W64 ^ 8) :
    Calls Sang.prog 14 #[vx, vy, .agg (ints .u64 (limbs W64 8 (remF X M))), .agg (ints .u8 (pathA X M))] w fun e w' => e = .returned (.bool true) ∧ Fr w.heap.size no w w' := by
  have hrl := remF_lt X M hM
  have hdm := fun w hx hy => divMod_all vx vy X M w hx hy hX hM
  have hpa := fun w hx hy => widePath_any vx vy X M w hx hy hX hM
  obtain ⟨p0, p1, p2, hp⟩ := pathA_three X M
  rw [hp] at hpa ⊢
  have hlv : val W64 (limbs W64 8 (remF X M)) = remF X M := by rw [val_limbs, Nat.mod_eq_of_lt hrl]
  have hln : ∀ w b, IB w b .u64 26 (limbs W64 8 (remF X M)) → Calls Sang.prog 10 #[.slice (some ⟨b, 0, none⟩) 8 8] w fun e w' => ∃ v', e = .returned v' ∧ Sl w' .u8 v' (digs (remF X M)) ∧ Fr w.heap.size no w w' := by
    intro w b h
    have h1 := Sl.of_ib h 8 8 (by rw [limbs_length]; decide) (Nat.le_refl _) (by decide)
    rw [List.take_of_length_le (by rw [limbs_length]; decide)] at h1
    have := limbsNat_any _ _ w h1 (limbs_dg W64_pos _ _) (by rw [limbs_length]; decide)
    rw [hlv] at this
    exact this
  have hcm : ∀ w v1 v2, Sl w .u8 v1 (digs (remF X M)) → Sl w .u8 v2 (digs (remF X M)) → Calls Sang.prog 9 #[v1, v2] w fun e w' => e = .returned (.int .i8 0) ∧ Fr w.heap.size no w w' := by
    intro w v1 v2 h1 h2
    have := cmp_any v1 v2 _ _ w h1 (digs_dg _) h2 (digs_dg _)
    rw [cmpZ_eq] at this
    exact this
  have HDM : Hid (∀ w, Sl w .u8 vx (digs X) → Sl w .u8 vy (digs M) → Calls Sang.prog 38 #[vx, vy] w fun e w' => ∃ vq vr ok, e = .returned (.tuple #[vq, vr, .bool ok]) ∧ Sl w' .u8 vr (digs (remF X M)) ∧ Fr w.heap.size no w w') := hdm
  have HPA : Hid (∀ w, Sl w .u8 vx (digs X) → Sl w .u8 vy (digs M) → Calls Sang.prog 39 #[vx, vy] w fun e w' => e = .returned (.agg #[.int .u8 (p0 : Int), .int .u8 (p1 : Int), .int .u8 (p2 : Int)]) ∧ Fr w.heap.size no w w') := hpa
  have HLN : Hid (∀ w b, IB w b .u64 26 (limbs W64 8 (remF X M)) → Calls Sang.prog 10 #[.slice (some ⟨b, 0, none⟩) 8 8] w fun e w' => ∃ v', e = .returned v' ∧ Sl w' .u8 v' (digs (remF X M)) ∧ Fr w.heap.size no w w') := hln
  have HCM : Hid (∀ w v1 v2, Sl w .u8 v1 (digs (remF X M)) → Sl w .u8 v2 (digs (remF X M)) → Calls Sang.prog 9 #[v1, v2] w fun e w' => e = .returned (.int .i8 0) ∧ Fr w.heap.size no w w') := hcm
  clear hdm hpa hln hcm hlv hrl hX hM hp
  generalize limbs W64 8 (remF X M) = RL at *
  go_enter Sang.func14, Sang.ntmps14
  go_wp2_with fail
  have hf1 : Fr w.heap.size no w ((w.alloc (.cells (ints .u64 RL) 26)).alloc (.cells (ints .u8 [p0, p1, p2]) 41)) := ((Fr.refl _ _ _).alloc (Nat.le_refl _) _).alloc (by simp) _
  have hI1 : IB ((w.alloc (.cells (ints .u64 RL) 26)).alloc (.cells (ints .u8 [p0, p1, p2]) 41)) w.heap.size .u64 26 RL := (IB.new w .u64 26 RL).alloc _
  have hJ1 : IB ((w.alloc (.cells (ints .u64 RL) 26)).alloc (.cells (ints .u8 [p0, p1, p2]) 41)) (w.heap.size + 1) .u8 41 [p0, p1, p2] := IB.newAt (by simp) rfl
  generalize (w.alloc (.cells (ints .u64 RL) 26)).alloc (.cells (ints .u8 [p0, p1, p2]) 41) = w1 at hf1 hI1 hJ1 ⊢
  refine (HDM.out _ (hx.fr hf1) (hy.fr hf1)).mono ?_
  rintro e w2 ⟨vq, vr, ok, rfl, hvr, hf2⟩
  have hfw2 : Fr w.heap.size no w w2 := hf1.step hf2 hf1.size (fun _ _ x => x)
  have hI2 := hI1.fr hf2 hI1.lt (fun x => x)
  have hJ2 := hJ1.fr hf2 hJ1.lt (fun x => x)
  clear hf2 hI1 hJ1 hf1 HDM
  go_wp2_with fail
  have hI2d := hI2.drew
  have hfw2d := hfw2.drew
  have hvrd : Sl w2.drew .u8 vr (digs (remF X M)) := hvr
  have hJ2d := hJ2.drew
  clear hI2 hfw2 hvr hJ2
  have hten : ((0 : Int) == 0) = true := rfl
  go_region_with (first
    | (go_at_call 10; refine (HLN.out _ _ hI2d).mono ?_; rintro e w3 ⟨v3, rfl, hv3, hf3⟩; have hvr3 := hvrd.fr hf3; have hJ3 := hJ2d.fr hf3 hJ2d.lt (fun x => x); have hfw3 := hfw2d.step hf3 hfw2d.size (fun _ _ x => x))
    | (go_at_call 9; refine (HCM.out _ _ _ hv3 hvr3).mono ?_; rintro e w4 ⟨rfl, hf4⟩; have hJ4 := hJ3.fr hf4 hJ3.lt (fun x => x); have hfw4 := hfw3.step hf4 hfw3.size (fun _ _ x => x); have hc0 := hJ4.cell 0 (by simp); have hc1 := hJ4.cell 1 (by simp); have hc2 := hJ4.cell 2 (by simp))
    | (go_at_call 39; refine (HPA.out _ (hx.fr hfw4) (hy.fr hfw4)).mono ?_; rintro e w5 ⟨rfl, hf5⟩; have hJ5 := hJ4.fr hf5 hJ4.lt (fun x => x); have hfw5 := hfw4.step hf5 hfw4.size (fun _ _ x => x); have hd0 := hJ5.cell 0 (by simp); have hd1 := hJ5.cell 1 (by simp); have hd2 := hJ5.cell 2 (by simp)))
  all_goals (go_wp2_with fail; go_ret; exact ⟨rfl, hfw5⟩)
end Go.Proofs.Ygcsan
