/-
  Package law: widePathOf, two limbs and more.
-/
import Derived.Test.YgcsanPathA
namespace Go.Proofs.Ygcsan
open Go.RowKit
set_option linter.unusedSimpArgs false
set_option linter.unusedVariables false

theorem pow_room (k n : Nat) (h : k < 64 * n) : 2 ^ k < W64 ^ n := by
  rw [show W64 = 2 ^ 64 from rfl, ← Nat.pow_mul]
  exact Nat.pow_lt_pow_right (by decide) h

theorem IB.kind {w : World} {b : Nat} {k k' : IntKind} {t : TypeId} {L : List Nat} (h : IB w b k t L) {i : Nat} {x : Int} (hc : w.cell? ⟨b, i, none⟩ = some (.int k' x)) : k = k' := by
  by_cases hi : i < L.length
  · rw [h.cell i hi] at hc
    cases hc
    rfl
  · unfold IB at h
    simp only [World.cell?, h] at hc
    have : (ints k L)[i]? = none := by
      rw [Array.getElem?_eq_none]
      rw [ints_size]; omega
    rw [this] at hc
    cases hc

set_option maxRecDepth 10000 in
set_option maxHeartbeats 4000000 in
theorem path_many (vx vy : Value) (X M : Nat) (w : World) (hx : Sl w .u8 vx (digs X)) (hy : Sl w .u8 vy (digs M)) (hX : X < W64 ^ 16) (hM : M < W64 ^ 8) (t n : Nat) (ht : nlim X = t) (hn : nlim M = n) (h2 : 2 ≤ n) (hnt : n ≤ t) :
    Calls Sang.prog 39 #[vx, vy] w fun e w' => e = .returned (.agg (ints .u8 (pathF t n (sOf n M) X M))) ∧ Fr w.heap.size no w w' := by
  have HX0 := hx
  have HY0 := hy
  obtain ⟨ax, cx, rfl, -, -, -⟩ := hx
  obtain ⟨ay, cy, rfl, -, -, -⟩ := hy
  have bx := digs_room X 16 hX
  have bm := digs_room M 8 hM
  have hNX : Nl t X := by rw [← ht]; exact Nl_digs X
  have hNM : Nl n M := by rw [← hn]; exact Nl_digs M
  obtain ⟨hFull, hs64⟩ := sOf_full hNM (by omega)
  unfold nlim at ht hn
  obtain ⟨s, HS⟩ : ∃ s, Hid (sOf n M = s) := ⟨_, rfl⟩
  rw [HS.out] at hFull hs64 ⊢
  have HSX : Hid (Sl w .u8 (.slice ax (digs X).length cx) (digs X)) := HX0
  have HSY : Hid (Sl w .u8 (.slice ay (digs M).length cy) (digs M)) := HY0
  have HM0 : Hid (X < W64 ^ 16 ∧ M < W64 ^ 8) := ⟨hX, hM⟩
  have HBd : Hid ((digs X).length ≤ 128 ∧ (digs M).length ≤ 64 ∧ Nl t X ∧ Nl n M ∧ Full n s M) := ⟨bx, bm, hNX, hNM, hFull⟩
  generalize (digs X).length = lx at *
  generalize (digs M).length = lm at *
  clear hX hM HX0 HY0 hNX hNM hFull
  have ht16 : t ≤ 16 := by omega
  have hn8 : n ≤ 8 := by omega
  have et : ((lx : Int) + 7) / 8 = (t : Int) := by omega
  have en : ((lm : Int) + 7) / 8 = (n : Int) := by omega
  clear ht hn
  obtain ⟨r1, hr1⟩ : ∃ r1, r1 = t - n := ⟨_, rfl⟩
  obtain ⟨r0, hr0⟩ : ∃ r0, r0 = t - n + 1 := ⟨_, rfl⟩
  have HR0 : Hid (r0 = t - n + 1) := hr0
  have e1 : (t : Int) - (n : Int) = (r1 : Int) := by omega
  have e2 : (r1 : Int) + 1 = (r0 : Int) := by omega
  have e3 : IntKind.u8.wrap (r0 : Int) = (r0 : Int) := by rw [IntKind.wrap_u8]; omega
  have hr16 : r0 ≤ 16 := by omega
  obtain ⟨K, hK⟩ : ∃ K, K = 64 * n - 1 := ⟨_, rfl⟩
  have eK : IntKind.u16.wrap (64 * (n : Int) - 1) = (K : Int) := by rw [IntKind.wrap_u16]; omega
  have HK : Hid (K = 64 * n - 1) := hK
  have hK2 : K < 65536 := by omega
  have hn0 : ((n : Int) == 0) = false := by simp; omega
  have hn1 : ((n : Int) == 1) = false := by simp; omega
  have htn : decide ((t : Int) < (n : Int)) = false := by simp; omega
  have htn2 : ¬ (t : Int) < (n : Int) := by omega
  have hni : (n : Int) ≤ 8 := by omega
  clear hr1 hr0 hK
  go_enter Sang.func39, Sang.ntmps39
  go_wp2_with fail
  go_loopw [8] (fun sv wr => ∃ k : Nat, k ≤ s ∧ sv = .int .u16 k ∧ IB wr w.heap.size .u8 41 [0, 0, 0] ∧ IB wr (w.heap.size + 1) .u8 41 [r0, 0, 0] ∧ w.heap.size + 2 ≤ wr.heap.size ∧ Fr w.heap.size no w wr) (fun sv _ => 64 - (intOf sv).toNat)
  case atStart =>
    refine ⟨0, Nat.zero_le _, rfl, ?_, ?_, by simp, ((Fr.refl _ _ _).alloc (Nat.le_refl _) _).alloc (by simp) _⟩
    · refine IB.alloc (IB.newAt ?_ ?_) _
      · rfl
      · rfl
    · refine IB.newAt ?_ ?_
      · simp
      · rfl
  case round =>
    obtain ⟨k, hk, rfl, hR, hP, hsz, hf⟩ := hrel
    have hk64 : decide ((k : Int) < 64) = true := by simp; omega
    have hk2 : k < 65536 := by omega
    have hp1 : (digs (2 ^ k)).length ≤ 16 := by
      exact digs_room (2 ^ k) 2 (pow_room k 2 (by omega))
    have hp2 : (digs (2 ^ K)).length ≤ 64 := by
      exact digs_room (2 ^ K) 8 (pow_room K 8 (by have := HK.out; omega))
    have HPw : Hid ((digs (2 ^ k)).length ≤ 16 ∧ (digs (2 ^ K)).length ≤ 64 ∧ (digs M).length ≤ 64 ∧ (digs X).length ≤ 128) := ⟨hp1, hp2, digs_room M 8 HM0.out.2, digs_room X 16 HM0.out.1⟩
    clear hp1 hp2
    go_wp2_with fail
    refine (pow2_any k hk2 _).mono ?_
    rintro e w1 ⟨v1, rfl, hv1, hf1⟩
    have hfw1 : Fr w.heap.size no w w1 := hf.step hf1 hf.size (fun _ _ x => x)
    have hR1 := hR.fr hf1 hR.lt (fun x => x)
    have hP1 := hP.fr hf1 hP.lt (fun x => x)
    have hsz1 : w.heap.size + 2 ≤ w1.heap.size := Nat.le_trans hsz hf1.size
    clear hf1 hR hP hf hsz
    go_wp2_with fail
    refine (mul_any _ v1 (digs M) (digs (2 ^ k)) w1 (HSY.out.fr hfw1) (digs_dg _) hv1 (digs_dg _) (by have := HPw.out; omega) (by have := HPw.out; omega)).mono ?_
    rintro e w2 ⟨v2, rfl, hv2, hf2⟩
    rw [val_digs, val_digs] at hv2
    have hfw2 : Fr w.heap.size no w w2 := hfw1.step hf2 hfw1.size (fun _ _ x => x)
    have hR2 := hR1.fr hf2 hR1.lt (fun x => x)
    have hP2 := hP1.fr hf2 hP1.lt (fun x => x)
    have hsz2 : w.heap.size + 2 ≤ w2.heap.size := Nat.le_trans hsz1 hf2.size
    clear hf2 hR1 hP1 hfw1 hsz1 hv1
    go_wp2_with fail
    refine (pow2_any K hK2 _).mono ?_
    rintro e w3 ⟨v3, rfl, hv3, hf3⟩
    have hv2' := hv2.fr hf3
    have hfw3 : Fr w.heap.size no w w3 := hfw2.step hf3 hfw2.size (fun _ _ x => x)
    have hR3 := hR2.fr hf3 hR2.lt (fun x => x)
    have hP3 := hP2.fr hf3 hP2.lt (fun x => x)
    have hsz3 : w.heap.size + 2 ≤ w3.heap.size := Nat.le_trans hsz2 hf3.size
    clear hf3 hR2 hP2 hfw2 hsz2 hv2
    have hcmp := cmp_any v2 v3 (digs (M * 2 ^ k)) (digs (2 ^ K)) w3 hv2' (digs_dg _) hv3 (digs_dg _)
    rw [val_digs, val_digs] at hcmp
    rcases Nat.lt_or_ge k s with hks | hks
    · have hlt : M * 2 ^ k < 2 ^ K := by
        rw [HK.out, half_pow (by omega)]
        exact Full_lt (by omega) HBd.out.2.2.2.2 hks
      rw [cmpZ_lt hlt] at hcmp
      clear hlt hv2' hv3
      have HCm : Hid (Calls Sang.prog 9 #[v2, v3] w3 fun e w' => e = .returned (.int .i8 (-1)) ∧ Fr w3.heap.size no w3 w') := hcmp
      clear hcmp
      go_wp2_with fail
      refine HCm.out.mono ?_
      rintro e w4 ⟨rfl, hf4⟩
      go_wp2_with fail
      refine ⟨⟨k + 1, by omega, by go_num, hR3.fr hf4 hR3.lt (fun x => x), hP3.fr hf4 hP3.lt (fun x => x), Nat.le_trans hsz3 hf4.size, hfw3.step hf4 hfw3.size (fun _ _ x => x)⟩, by simp [intOf]; omega⟩
    · have : k = s := by omega
      subst this
      have hge : 2 ^ K ≤ M * 2 ^ k := by
        rw [HK.out, half_pow (by omega)]
        exact HBd.out.2.2.2.2.1
      obtain ⟨z, HZ, hz0⟩ : ∃ z : Int, Hid (cmpZ (M * 2 ^ k) (2 ^ K) = z) ∧ ¬ z < 0 := by
        refine ⟨_, rfl, ?_⟩
        unfold cmpZ
        split
        · omega
        · split <;> decide
      rw [HZ.out] at hcmp
      have HCm : Hid (Calls Sang.prog 9 #[v2, v3] w3 fun e w' => e = .returned (.int .i8 z) ∧ Fr w3.heap.size no w3 w') := hcmp
      have hz1 : decide (z < 0) = false := by simp; omega
      clear hcmp hge hv2' hv3
      go_wp2_with fail
      refine HCm.out.mono ?_
      rintro e w4 ⟨rfl, hf4⟩
      have hfw4 : Fr w.heap.size no w w4 := hfw3.step hf4 hfw3.size (fun _ _ x => x)
      have hR4 := hR3.fr hf4 hR3.lt (fun x => x)
      have hP4 := hP3.fr hf4 hP3.lt (fun x => x)
      have hsz4 : w.heap.size + 2 ≤ w4.heap.size := Nat.le_trans hsz3 hf4.size
      clear hf4 hR3 hP3 hfw3 hsz3 HCm
      go_wp2_with fail
      refine (pow2_any k hk2 _).mono ?_
      rintro e w5 ⟨v5, rfl, hv5, hf5⟩
      have hfw5 : Fr w.heap.size no w w5 := hfw4.step hf5 hfw4.size (fun _ _ x => x)
      have hR5 := hR4.fr hf5 hR4.lt (fun x => x)
      have hP5 := hP4.fr hf5 hP4.lt (fun x => x)
      have hsz5 : w.heap.size + 2 ≤ w5.heap.size := Nat.le_trans hsz4 hf5.size
      clear hf5 hR4 hP4 hfw4 hsz4
      go_wp2_with fail
      refine (mul_any _ v5 (digs M) (digs (2 ^ k)) w5 (HSY.out.fr hfw5) (digs_dg _) hv5 (digs_dg _) (by have := HPw.out; omega) (by have := HPw.out; omega)).mono ?_
      rintro e w6 ⟨v6, rfl, hv6, hf6⟩
      rw [val_digs, val_digs] at hv6
      have hfw6 : Fr w.heap.size no w w6 := hfw5.step hf6 hfw5.size (fun _ _ x => x)
      have hR6 := hR5.fr hf6 hR5.lt (fun x => x)
      have hP6 := hP5.fr hf6 hP5.lt (fun x => x)
      have hsz6 : w.heap.size + 2 ≤ w6.heap.size := Nat.le_trans hsz5 hf6.size
      clear hf6 hR5 hP5 hfw5 hsz5 hv5
      go_wp2_with fail
      have hd8 : (digs (M * 2 ^ k)).length ≤ 64 := by
        refine digs_room (M * 2 ^ k) 8 ?_
        exact Nat.lt_of_lt_of_le HBd.out.2.2.2.2.2 (Nat.pow_le_pow_right W64_pos hn8)
      refine (natWide_any v6 (digs (M * 2 ^ k)) w6 hv6 (digs_dg _) hd8).mono ?_
      rintro e w7 ⟨rfl, hf7⟩
      rw [val_digs]
      have hfw7 : Fr w.heap.size no w w7 := hfw6.step hf7 hfw6.size (fun _ _ x => x)
      have hR7 := hR6.fr hf7 hR6.lt (fun x => x)
      have hP7 := hP6.fr hf7 hP6.lt (fun x => x)
      have hsz7 : w.heap.size + 2 ≤ w7.heap.size := Nat.le_trans hsz6 hf7.size
      clear hf7 hR6 hP6 hfw6 hsz6 hv6 hd8
      obtain ⟨hv1, hv2, hv3⟩ := Full_limbs (by omega) hn8 HBd.out.2.2.2.2
      have hv4 := limbs_dg W64_pos 8 (M * 2 ^ k)
      have hv5 := limbs_length W64 8 (M * 2 ^ k)
      have hst := start_lt (s := k) HBd.out.2.2.1.1 (HBd.out.2.2.2.1.2.resolve_left (by omega)) (by omega) hnt
      rw [← HR0.out, ← hv1] at hst
      obtain ⟨P0, HP0⟩ : ∃ P0, Hid (rdRun n (limbs W64 8 (M * 2 ^ k)) r0 (X * 2 ^ k) (0, 0) = P0) := ⟨_, rfl⟩
      have HA : Hid (val W64 (limbs W64 8 (M * 2 ^ k)) = M * 2 ^ k) := hv1
      generalize hVL : limbs W64 8 (M * 2 ^ k) = VL at hv1 hv2 hv3 hv4 hv5 HP0 hst HA ⊢
      have HVL : Hid (limbs W64 8 (M * 2 ^ k) = VL) := hVL
      have HV : Hid (lcF VL 8 = n ∧ H63 ≤ VL.getD (n - 1) 0 ∧ Dg W64 VL ∧ VL.length = 8) := ⟨hv2, hv3, hv4, hv5⟩
      have HVlt : Hid (val W64 VL < W64 ^ n) := by unfold Hid; rw [HA.out]; exact HBd.out.2.2.2.2.2
      have HST : Hid (X * 2 ^ k < val W64 VL * W64 ^ r0) := hst
      clear hVL hv1 hv2 hv3 hv4 hst
      have hNew : IB (w7.alloc (.cells #[.int .u64 0, .int .u64 0, .int .u64 0, .int .u64 0, .int .u64 0, .int .u64 0, .int .u64 0, .int .u64 0] 26)) w7.heap.size .u64 26 (List.replicate 8 0) := by
        refine IB.newAt ?_ ?_
        · rfl
        · rfl
      have hr26 : VL.length = (List.replicate 8 0).length := by rw [hv5]; rfl
      have hs26r : (Sang.prog.info? 26).map (·.size) = some (List.replicate 8 0).length := siz26
      have hszA : (setRow (w7.alloc (.cells #[.int .u64 0, .int .u64 0, .int .u64 0, .int .u64 0, .int .u64 0, .int .u64 0, .int .u64 0, .int .u64 0] 26)) w7.heap.size .u64 26 VL).heap.size = w7.heap.size + 1 := by rw [setRow_size]; simp
      clear hv5
      go_wp2_with (((with_reducible refine wl_store 26 (.tmp 9) (.tmp 63) w7.heap.size .u64 26 (List.replicate 8 0) VL ?_ ?_ hNew hr26 hs26r ?_); rfl; rfl))
      have hU8 : IB ((setRow (w7.alloc (.cells #[.int .u64 0, .int .u64 0, .int .u64 0, .int .u64 0, .int .u64 0, .int .u64 0, .int .u64 0, .int .u64 0] 26)) w7.heap.size .u64 26 VL).alloc (.cells #[.int .u64 0, .int .u64 0, .int .u64 0, .int .u64 0, .int .u64 0, .int .u64 0, .int .u64 0, .int .u64 0, .int .u64 0, .int .u64 0, .int .u64 0, .int .u64 0, .int .u64 0, .int .u64 0, .int .u64 0, .int .u64 0, .int .u64 0] 95)) (w7.heap.size + 1) .u64 95 (List.replicate 17 0) := by
        refine IB.newAt hszA ?_
        rfl
      have hV8 := (IB.setRow (w := w7.alloc (.cells #[.int .u64 0, .int .u64 0, .int .u64 0, .int .u64 0, .int .u64 0, .int .u64 0, .int .u64 0, .int .u64 0] 26)) (b := w7.heap.size) (by simp) .u64 26 VL).alloc (.cells #[.int .u64 0, .int .u64 0, .int .u64 0, .int .u64 0, .int .u64 0, .int .u64 0, .int .u64 0, .int .u64 0, .int .u64 0, .int .u64 0, .int .u64 0, .int .u64 0, .int .u64 0, .int .u64 0, .int .u64 0, .int .u64 0, .int .u64 0] 95)
      have hR8 := ((hR7.alloc (.cells #[.int .u64 0, .int .u64 0, .int .u64 0, .int .u64 0, .int .u64 0, .int .u64 0, .int .u64 0, .int .u64 0] 26)).otherRow (b' := w7.heap.size) (by omega) .u64 26 VL).alloc (.cells #[.int .u64 0, .int .u64 0, .int .u64 0, .int .u64 0, .int .u64 0, .int .u64 0, .int .u64 0, .int .u64 0, .int .u64 0, .int .u64 0, .int .u64 0, .int .u64 0, .int .u64 0, .int .u64 0, .int .u64 0, .int .u64 0, .int .u64 0] 95)
      have hP8 := ((hP7.alloc (.cells #[.int .u64 0, .int .u64 0, .int .u64 0, .int .u64 0, .int .u64 0, .int .u64 0, .int .u64 0, .int .u64 0] 26)).otherRow (b' := w7.heap.size) (by omega) .u64 26 VL).alloc (.cells #[.int .u64 0, .int .u64 0, .int .u64 0, .int .u64 0, .int .u64 0, .int .u64 0, .int .u64 0, .int .u64 0, .int .u64 0, .int .u64 0, .int .u64 0, .int .u64 0, .int .u64 0, .int .u64 0, .int .u64 0, .int .u64 0, .int .u64 0] 95)
      have hfw8 : Fr w.heap.size no w ((setRow (w7.alloc (.cells #[.int .u64 0, .int .u64 0, .int .u64 0, .int .u64 0, .int .u64 0, .int .u64 0, .int .u64 0, .int .u64 0] 26)) w7.heap.size .u64 26 VL).alloc (.cells #[.int .u64 0, .int .u64 0, .int .u64 0, .int .u64 0, .int .u64 0, .int .u64 0, .int .u64 0, .int .u64 0, .int .u64 0, .int .u64 0, .int .u64 0, .int .u64 0, .int .u64 0, .int .u64 0, .int .u64 0, .int .u64 0, .int .u64 0] 95)) := ((hfw7.alloc (by omega) _).setRow (.inl (by omega)) _ _ _).alloc (by rw [hszA]; omega) _
      have hsz8 : ((setRow (w7.alloc (.cells #[.int .u64 0, .int .u64 0, .int .u64 0, .int .u64 0, .int .u64 0, .int .u64 0, .int .u64 0, .int .u64 0] 26)) w7.heap.size .u64 26 VL).alloc (.cells #[.int .u64 0, .int .u64 0, .int .u64 0, .int .u64 0, .int .u64 0, .int .u64 0, .int .u64 0, .int .u64 0, .int .u64 0, .int .u64 0, .int .u64 0, .int .u64 0, .int .u64 0, .int .u64 0, .int .u64 0, .int .u64 0, .int .u64 0] 95)).heap.size = w7.heap.size + 2 := by simp [hszA]
      generalize (setRow (w7.alloc (.cells #[.int .u64 0, .int .u64 0, .int .u64 0, .int .u64 0, .int .u64 0, .int .u64 0, .int .u64 0, .int .u64 0] 26)) w7.heap.size .u64 26 VL).alloc (.cells #[.int .u64 0, .int .u64 0, .int .u64 0, .int .u64 0, .int .u64 0, .int .u64 0, .int .u64 0, .int .u64 0, .int .u64 0, .int .u64 0, .int .u64 0, .int .u64 0, .int .u64 0, .int .u64 0, .int .u64 0, .int .u64 0, .int .u64 0] 95) = w8 at hU8 hV8 hR8 hP8 hfw8 hsz8 ⊢
      clear hNew hr26 hs26r hszA hR7 hP7 hfw7
      generalize w7.heap.size = U at hsz7 hU8 hV8 hsz8 ⊢
      have hsz8' : U + 2 ≤ w8.heap.size := by omega
      clear hsz8
      refine (pow2_any k hk2 _).mono ?_
      rintro e w9 ⟨v9, rfl, hv9, hf9⟩
      have hfw9 : Fr w.heap.size no w w9 := hfw8.step hf9 (by omega) (fun _ _ x => x)
      have hR9 := hR8.fr hf9 hR8.lt (fun x => x)
      have hP9 := hP8.fr hf9 hP8.lt (fun x => x)
      have hU9 := hU8.fr hf9 hU8.lt (fun x => x)
      have hV9 := hV8.fr hf9 hV8.lt (fun x => x)
      have hsz9 : U + 2 ≤ w9.heap.size := Nat.le_trans hsz8' hf9.size
      clear hf9 hR8 hP8 hU8 hV8 hfw8 hsz8'
      go_wp2_with fail
      refine (mul_any _ v9 (digs X) (digs (2 ^ k)) w9 (HSX.out.fr hfw9) (digs_dg _) hv9 (digs_dg _) (by have := HPw.out; omega) (by have := HPw.out; omega)).mono ?_
      rintro e wA ⟨vA, rfl, hvA, hfA⟩
      rw [val_digs, val_digs] at hvA
      have hfwA : Fr w.heap.size no w wA := hfw9.step hfA (by omega) (fun _ _ x => x)
      have hRA := hR9.fr hfA hR9.lt (fun x => x)
      have hPA := hP9.fr hfA hP9.lt (fun x => x)
      have hUA := hU9.fr hfA hU9.lt (fun x => x)
      have hVA := hV9.fr hfA hV9.lt (fun x => x)
      have hszA : U + 2 ≤ wA.heap.size := Nat.le_trans hsz9 hfA.size
      clear hfA hR9 hP9 hU9 hV9 hfw9 hsz9 hv9
      have hz17 : (digs (X * 2 ^ k)).length ≤ 136 := digs_room _ 17 (start_room HBd.out.2.2.1.1 ht16 hs64)
      have HDZ : Hid (Dg 256 (digs (X * 2 ^ k)) ∧ val 256 (digs (X * 2 ^ k)) = X * 2 ^ k) := ⟨digs_dg _, val_digs _⟩
      generalize digs (X * 2 ^ k) = l at hvA hz17 HDZ
      obtain ⟨az, cz, rfl, hlz, hmz, hcz⟩ := hvA
      have HCZ : Hid (l = [] ∨ ∃ b off, az = some ⟨b, off, none⟩ ∧ ∀ i, i < l.length → wA.cell? ⟨b, off + i, none⟩ = some (.int .u8 ((l.getD i 0 : Nat) : Int))) := hcz
      clear hcz
      unfold maxLen at hmz
      go_wp2_with fail
      go_loopw [69] (fun i wr => ∃ j : Nat, j ≤ l.length ∧ i = .int .i64 j ∧ IB wr (U + 1) .u64 95 (limbs W64 17 (val 256 (l.take j))) ∧ IB wr U .u64 26 VL ∧ IB wr (w.heap.size + 1) .u8 41 [r0, 0, 0] ∧ IB wr w.heap.size .u8 41 [0, 0, 0] ∧ U + 2 ≤ wr.heap.size ∧ Fr w.heap.size no w wr ∧ Fr wA.heap.size (fun q => q = U + 1) wA wr) (fun i _ => l.length - (intOf i).toNat)
      case atStart =>
        refine ⟨0, Nat.zero_le _, rfl, ?_, hVA, hPA, hRA, hszA, hfwA, Fr.refl _ _ _⟩
        rw [List.take_zero, val, limbs_zero]
        exact hUA
      case round =>
        obtain ⟨j, hj, rfl, hU, hV, hP, hR, hsz, hf, hfz⟩ := hrel
        by_cases hjn : j < l.length
        · rcases HCZ.out with h0 | ⟨b, off, rfl, hc⟩
          · rw [h0] at hjn; simp at hjn
          obtain ⟨d, HD, hcd⟩ := Sl.at (n := 0) (cap := 0) hc j hjn
          have hbU : b ≠ U + 1 := by
            intro hb
            subst hb
            have := hUA.kind hcd
            cases this
          rw [← hfz.cell (cell_lt hcd) hbU] at hcd
          have hd256 : d < 256 := by rw [← HD.out]; exact HDZ.out.1.getD (by decide) _
          clear hc
          have hb136 : (j : Int) < 136 := by omega
          have HN : Hid (val 256 (l.take j) < 256 ^ j) := by
            have := val_lt (HDZ.out.1.take j)
            rwa [show (l.take j).length = j by simp; omega] at this
          obtain ⟨g, HG, hcg⟩ : ∃ g : Nat, Hid ((limbs W64 17 (val 256 (l.take j))).getD (j / 8) 0 = g) ∧ wr.cell? ⟨U + 1, j / 8, none⟩ = some (.int .u64 (g : Int)) := ⟨_, rfl, hU.cell (j / 8) (by rw [limbs_length]; omega)⟩
          have hz3 := hU.unfrozen (j / 8)
          go_wp2_with fail
          go_region
          go_wp2_with fail
          have hlow := limb_low 17 _ j HN.out (by omega)
          rw [HG.out] at hlow
          refine ⟨⟨j + 1, by omega, by go_num, ?_, (hV.other (by simp) _).drew, (hP.other (by simp; omega) _).drew, (hR.other (by simp; omega) _).drew, by simp [World.setCell]; omega, (hf.setCell (.inl (by simp; omega)) _).drew, (hfz.setCell (.inr rfl) _).drew⟩, by simp [intOf]; omega⟩
          refine IB.drew (hU.set' (j / 8) (g + d * 256 ^ (j % 8)) (orDigit g d (j % 8) (by omega) hlow hd256) ?_)
          rw [val_take_succ 256 l j hjn, HD.out, ← lay_digit 17 _ j d HN.out hd256 (by omega), HG.out]
        · have : j = l.length := by omega
          subst this
          rw [List.take_length, HDZ.out.2] at hU
          clear hfz hUA hVA hPA hRA hszA hfwA HCZ hjn hj
          go_wp2_with fail
          go_loopw [13] (fun jv w6 => ∃ (j A f b : Nat), j ≤ r0 ∧ jv = .int .i64 j ∧ IB w6 (U + 1) .u64 95 (limbs W64 17 A) ∧ IB w6 U .u64 26 VL ∧ IB w6 (w.heap.size + 1) .u8 41 [r0, f, b] ∧ IB w6 w.heap.size .u8 41 [0, 0, 0] ∧
            Hid (rdRun n VL j A (f, b) = P0) ∧ Hid (A < val W64 VL * W64 ^ j) ∧ Hid (b < 256) ∧ U + 2 ≤ w6.heap.size ∧ Fr w.heap.size no w w6) (fun j _ => (intOf j).toNat)
          case atStart =>
            refine ⟨r0, _, 0, 0, Nat.le_refl _, rfl, hU, hV, hP, hR, HP0, HST, ?_, hsz, hf⟩
            show 0 < 256
            decide
          case round =>
            obtain ⟨j, A, f, b, hj, rfl, hU6, hV6, hP6, hR6, HRun, HLt, HB, hsz6, hf6⟩ := hrel
            cases j with
            | zero =>
              have hs1 : (Sang.prog.info? 41).map (·.size) = some [r0, f, b].length := siz41
              have hs2 : (Sang.prog.info? 41).map (·.size) = some [0, 0, 0].length := siz41
              have hln : [r0, f, b].length = [0, 0, 0].length := rfl
              have HPath : Hid (pathF t n k X M = [r0, f, b]) := by
                unfold Hid pathF
                rw [HVL.out, ← HR0.out, HP0.out, ← HRun.out]
                rfl
              go_wp2_with (first
                | ((with_reducible refine wl_load 41 (.tmp 5) (w.heap.size + 1) .u8 41 [r0, f, b] ?_ hP6 _ Sang.underlying41 ?_ hs1 ?_); rfl; rfl)
                | ((with_reducible refine wl_store 41 (.tmp 4) (.tmp 115) w.heap.size .u8 41 [0, 0, 0] [r0, f, b] ?_ ?_ hR6 hln hs2 ?_); rfl; rfl))
              rw [HPath.out]
              refine bodyPost_ret (results_cell Sang.results39 rfl (IB.setRow hR6.lt _ _ _) _ Sang.underlying41 rfl hs1) rfl ⟨rfl, ?_⟩
              exact hf6.setRow (.inl (Nat.le_refl _)) _ _ _
            | succ j =>
              have hnj : j + n ≤ 16 := by rw [HR0.out] at hj; omega
              have hA17 : A < W64 ^ 17 := by
                have h1 : val W64 VL * W64 ^ (j + 1) ≤ W64 ^ n * W64 ^ (j + 1) := Nat.mul_le_mul_right _ (Nat.le_of_lt HVlt.out)
                have h2 : W64 ^ n * W64 ^ (j + 1) ≤ W64 ^ 17 := by rw [← Nat.pow_add]; exact Nat.pow_le_pow_right W64_pos (by omega)
                exact Nat.lt_of_lt_of_le HLt.out (Nat.le_trans h1 h2)
              have hvA : val W64 (limbs W64 17 A) = A := by rw [val_limbs, Nat.mod_eq_of_lt hA17]
              have hrw := roundWide_any (U + 1) U n j 95 26 (limbs W64 17 A) VL wr hU6 hV6 (by omega) (limbs_length _ _ _) HV.out.2.2.2 (limbs_dg W64_pos _ _) HV.out.2.2.1 h2 hn8 hnj HV.out.1 HV.out.2.1 (by rw [hvA]; exact HLt.out)
              rw [hvA] at hrw
              have hRun := HRun.out
              unfold rdRun at hRun
              have hVp : 0 < val W64 VL := by
                rcases Nat.eq_zero_or_pos (val W64 VL) with h | h
                · have := HLt.out; rw [h, Nat.zero_mul] at this; omega
                · exact h
              have hLt2 : A % (val W64 VL * W64 ^ j) < val W64 VL * W64 ^ j := Nat.mod_lt _ (Nat.mul_pos hVp (Nat.pow_pos W64_pos))
              generalize A % (val W64 VL * W64 ^ j) = A2 at hRun hLt2 hrw
              generalize rdFix (limbs W64 17 A) VL n j = fx at hRun hrw
              generalize rdBack (limbs W64 17 A) VL n j = bk at hRun hrw
              obtain ⟨f2, HF2⟩ : ∃ f2, Hid ((f + fx) % 256 = f2) := ⟨_, rfl⟩
              have e7 : IntKind.u8.wrap ((f : Int) + (fx : Int)) = (f2 : Int) := by rw [← HF2.out, IntKind.wrap_u8]; omega
              have HRun2 : Hid (rdRun n VL j A2 (f2, (b + bk.toNat) % 256) = P0) := by rw [← HF2.out]; exact hRun
              have HLt2 : Hid (A2 < val W64 VL * W64 ^ j) := hLt2
              have HRW : Hid (Calls Sang.prog 36 #[.pointer (some ⟨U + 1, 0, none⟩), .pointer (some ⟨U, 0, none⟩), .int .u8 (n : Int), .int .u8 (j : Int)] wr fun e w' => (∃ q : Nat, e = .returned (.tuple #[.int .u64 (q : Int), .int .u8 (fx : Nat), .bool bk])) ∧ IB w' (U + 1) .u64 95 (limbs W64 17 A2) ∧ Fr wr.heap.size (fun k => k = U + 1) wr w') := hrw
              have e8 : IntKind.u8.wrap (n : Int) = (n : Int) := by rw [IntKind.wrap_u8]; omega
              have e9 : IntKind.u8.wrap (j : Int) = (j : Int) := by rw [IntKind.wrap_u8]; omega
              clear hRun hLt2 hrw hA17 hvA hVp HRun HLt
              go_wp2_with fail
              refine HRW.out.mono ?_
              rintro e w7 ⟨⟨q, rfl⟩, hU7, hf7⟩
              have hsz7 : U + 2 ≤ w7.heap.size := by have := hf7.size; omega
              have hR7 := hR6.fr hf7 hR6.lt (by omega)
              have hP7 := hP6.fr hf7 hP6.lt (by omega)
              have hV7 := hV6.fr hf7 hV6.lt (by omega)
              have hf7' : Fr w.heap.size no w w7 := hf6.step hf7 (by omega) (fun i hi x => absurd x (by omega))
              clear hf7 hR6 hP6 hV6 hf6 hU6 HRW
              have hc1 : w7.cell? ⟨w.heap.size + 1, 1, none⟩ = some (.int .u8 (f : Int)) := hP7.cell 1 (by simp)
              have hc2 : w7.cell? ⟨w.heap.size + 1, 2, none⟩ = some (.int .u8 (b : Int)) := hP7.cell 2 (by simp)
              have hz1 := hP7.unfrozen 1
              have hz2 := hP7.unfrozen 2
              cases bk with
              | false =>
                go_wp2_with fail
                refine ⟨⟨j, A2, f2, b, by omega, by go_num, hU7.other (by simp; omega) _, hV7.other (by simp; omega) _, ?_, hR7.other (by simp) _, ?_, HLt2, HB, by simp [World.setCell]; omega, hf7'.setCell (.inl (by simp)) _⟩, by simp [intOf]⟩
                · exact hP7.set' 1 f2 rfl rfl
                · have := HRun2.out
                  rw [show (b + false.toNat) % 256 = b from Nat.mod_eq_of_lt HB.out] at this
                  exact this
              | true =>
                obtain ⟨b2, HB2⟩ : ∃ b2, Hid ((b + 1) % 256 = b2) := ⟨_, rfl⟩
                have eB : IntKind.u8.wrap ((b : Int) + 1) = (b2 : Int) := by rw [← HB2.out, IntKind.wrap_u8]; omega
                go_wp2_with fail
                refine ⟨⟨j, A2, f2, b2, by omega, by go_num, (hU7.other (by simp; omega) _).other (by simp; omega) _, (hV7.other (by simp; omega) _).other (by simp; omega) _, ?_, (hR7.other (by simp) _).other (by simp) _, ?_, HLt2, ?_, by simp [World.setCell]; omega, (hf7'.setCell (.inl (by simp)) _).setCell (.inl (by simp)) _⟩, by simp [intOf]⟩
                · exact (hP7.set' 1 f2 rfl rfl).set' 2 b2 rfl rfl
                · rw [← HB2.out]; exact HRun2
                · unfold Hid; rw [← HB2.out]; exact Nat.mod_lt _ (by decide)
end Go.Proofs.Ygcsan
