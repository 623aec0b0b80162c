/-
  Package u256: ModExp.
-/
import Derived.Test.YgcsanPow
import Derived.Test.YgcsanWrB
namespace Go.Proofs.Ygcsan
open Go.RowKit
set_option linter.unusedSimpArgs false
set_option linter.unusedVariables false

theorem mod_bit64 (a b : Nat) (hb : b < 64) : a % W64 / 2 ^ b % 2 = a / 2 ^ b % 2 := by
  have e : W64 = 2 ^ b * (2 * 2 ^ (63 - b)) := by
    rw [show 2 * 2 ^ (63 - b) = 2 ^ (64 - b) by rw [show 64 - b = (63 - b) + 1 by omega, Nat.pow_succ, Nat.mul_comm], ← Nat.pow_add, show b + (64 - b) = 64 by omega]
    rfl
  have h := Nat.div_add_mod a W64
  have h2 : a / 2 ^ b = 2 * (2 ^ (63 - b) * (a / W64)) + a % W64 / 2 ^ b := by
    conv => lhs; rw [← h]
    generalize a % W64 = r at *
    generalize a / W64 = q at *
    rw [e, show 2 ^ b * (2 * 2 ^ (63 - b)) * q + r = r + 2 ^ b * (2 * (2 ^ (63 - b) * q)) by rw [Nat.mul_assoc, Nat.mul_assoc]; omega, Nat.add_mul_div_left _ _ (Nat.pow_pos (by decide))]
    omega
  rw [h2]
  omega

theorem bit_of_limb {l : List Nat} (h : Dg W64 l) (i : Nat) : l.getD (i / 64) 0 / 2 ^ (i % 64) % 2 = val W64 l / 2 ^ i % 2 := by
  rw [getD_val h W64_pos, mod_bit64 _ _ (by omega), Nat.div_div_eq_div_mul]
  congr 2
  rw [show W64 = 2 ^ 64 from rfl, ← Nat.pow_mul, ← Nat.pow_add]
  congr 1
  omega

theorem and1_nat64 (a : Nat) (ha : a < W64) : bits .and .u64 (a : Int) 1 = ((a % 2 : Nat) : Int) := by
  have := u64_and_nat a 1 ha (by omega)
  rw [nat_mask1] at this
  exact this

theorem mul1024N (ba bb : Nat) (a b : Nat) (w : World) (hA : IB w ba .u64 26 (limbs W64 8 a)) (hB : IB w bb .u64 26 (limbs W64 8 b)) (ha : a < W64 ^ 8) (hb : b < W64 ^ 8) :
    Calls Sang.prog 8 #[.pointer (some ⟨ba, 0, none⟩), .pointer (some ⟨bb, 0, none⟩)] w fun e w' => e = .returned (.agg (ints .u64 (limbs W64 16 (a * b)))) ∧ Fr w.heap.size no w w' := by
  have := mul1024_any ba bb 26 26 _ _ w hA hB (limbs_length _ _ _) (limbs_length _ _ _) (limbs_dg W64_pos _ _) (limbs_dg W64_pos _ _)
  rw [val_limbs, val_limbs, Nat.mod_eq_of_lt ha, Nat.mod_eq_of_lt hb] at this
  exact this

theorem rem1024N (bx bm : Nat) (tm : TypeId) (X : Nat) (M : List Nat) (w : World) (hX : IB w bx .u64 28 (limbs W64 16 X)) (hM : IB w bm .u64 tm M) (lM : M.length = 8) (dM : Dg W64 M) (rX : X < W64 ^ 16) :
    Calls Sang.prog 13 #[.pointer (some ⟨bx, 0, none⟩), .pointer (some ⟨bm, 0, none⟩)] w fun e w' =>
      ∃ vp, e = .returned (.tuple #[.agg (ints .u64 (limbs W64 8 (remF X (val W64 M)))), vp]) ∧ Fr w.heap.size no w w' := by
  have := rem1024_any bx bm 28 tm _ M w hX hM (limbs_length _ _ _) lM (limbs_dg W64_pos _ _) dM
  rw [val_limbs, Nat.mod_eq_of_lt rX] at this
  exact this.mono fun e w' h => ⟨_, h.1, h.2⟩

theorem shift_all {e k : Nat} (h : e < W64 ^ k) (n : Nat) (hn : n = 64 * k) : e / 2 ^ n = 0 := by
  subst hn
  refine Nat.div_eq_of_lt ?_
  rw [Nat.pow_mul]
  exact h

set_option maxRecDepth 10000 in
set_option maxHeartbeats 2000000 in
theorem uPow_any (bb be bm : Nat) (tb te tm : TypeId) (B E M : List Nat) (w : World) (hB : IB w bb .u64 tb B) (hE : IB w be .u64 te E) (hM : IB w bm .u64 tm M) (lB : B.length = 8) (lE : E.length = 8) (lM : M.length = 8) (dB : Dg W64 B) (dE : Dg W64 E) (dM : Dg W64 M) :
    Calls Sang.prog 17 #[.pointer (some ⟨bb, 0, none⟩), .pointer (some ⟨be, 0, none⟩), .pointer (some ⟨bm, 0, none⟩)] w fun e w' =>
      e = .returned (.agg (ints .u64 (limbs W64 8 (powF (val W64 B) (val W64 E) (val W64 M))))) ∧ Fr w.heap.size no w w' := by
  have HD : Hid (Dg W64 B ∧ Dg W64 E ∧ Dg W64 M) := ⟨dB, dE, dM⟩
  have HR : Hid (val W64 B < W64 ^ 8 ∧ val W64 E < W64 ^ 8 ∧ val W64 M < W64 ^ 8) := ⟨by have := val_lt dB; rwa [lB] at this, by have := val_lt dE; rwa [lE] at this, by have := val_lt dM; rwa [lM] at this⟩
  clear dB dE dM
  have hs26 : (Sang.prog.info? 26).map (·.size) = some (List.replicate 8 0).length := siz26
  have hs28 : (Sang.prog.info? 28).map (·.size) = some (List.replicate 16 0).length := siz28
  have hs41 : (Sang.prog.info? 41).map (·.size) = some [0, 0, 0].length := siz41
  have hl8 : ∀ n, (limbs W64 8 n).length = (List.replicate 8 0).length := fun n => by rw [limbs_length]; rfl
  have hl16 : ∀ n, (limbs W64 16 n).length = (List.replicate 16 0).length := fun n => by rw [limbs_length]; rfl
  go_enter Sang.func17, Sang.ntmps17
  go_wp2_with ((with_reducible refine wl_store_new (w.alloc (.cells #[.int .u64 0, .int .u64 0, .int .u64 0, .int .u64 0, .int .u64 0, .int .u64 0, .int .u64 0, .int .u64 0] 26)) #[.int .u64 0, .int .u64 0, .int .u64 0, .int .u64 0, .int .u64 0, .int .u64 0, .int .u64 0, .int .u64 0, .int .u64 0, .int .u64 0, .int .u64 0, .int .u64 0, .int .u64 0, .int .u64 0, .int .u64 0, .int .u64 0] 28 (.tmp 7) (.tmp 17) (w.heap.size + 1) .u64 28 (List.replicate 16 0) [1, 0, 0, 0, 0, 0, 0, 0, 0, 0, 0, 0, 0, 0, 0, 0] ?_ ?_ ?_ ?_ rfl hs28 ?_); rfl; rfl; (simp); rfl)
  have hf0 : Fr w.heap.size no w ((w.alloc (.cells #[.int .u64 0, .int .u64 0, .int .u64 0, .int .u64 0, .int .u64 0, .int .u64 0, .int .u64 0, .int .u64 0] 26)).alloc (.cells (ints .u64 [1, 0, 0, 0, 0, 0, 0, 0, 0, 0, 0, 0, 0, 0, 0, 0]) 28)) := ((Fr.refl _ _ _).alloc (Nat.le_refl _) _).alloc (by simp) _
  have hR0 : IB ((w.alloc (.cells #[.int .u64 0, .int .u64 0, .int .u64 0, .int .u64 0, .int .u64 0, .int .u64 0, .int .u64 0, .int .u64 0] 26)).alloc (.cells (ints .u64 [1, 0, 0, 0, 0, 0, 0, 0, 0, 0, 0, 0, 0, 0, 0, 0]) 28)) w.heap.size .u64 26 (List.replicate 8 0) := by refine IB.alloc (IB.newAt ?_ ?_) _ <;> rfl
  have hO0 : IB ((w.alloc (.cells #[.int .u64 0, .int .u64 0, .int .u64 0, .int .u64 0, .int .u64 0, .int .u64 0, .int .u64 0, .int .u64 0] 26)).alloc (.cells (ints .u64 [1, 0, 0, 0, 0, 0, 0, 0, 0, 0, 0, 0, 0, 0, 0, 0]) 28)) (w.heap.size + 1) .u64 28 [1, 0, 0, 0, 0, 0, 0, 0, 0, 0, 0, 0, 0, 0, 0, 0] := IB.newAt (by simp) rfl
  generalize (w.alloc (.cells #[.int .u64 0, .int .u64 0, .int .u64 0, .int .u64 0, .int .u64 0, .int .u64 0, .int .u64 0, .int .u64 0] 26)).alloc (.cells (ints .u64 [1, 0, 0, 0, 0, 0, 0, 0, 0, 0, 0, 0, 0, 0, 0, 0]) 28) = w1 at hf0 hR0 hO0 ⊢
  have hcall := rem1024_any _ _ _ _ _ _ w1 hO0 (hM.fr hf0 hM.lt (fun x => x)) rfl lM (Dg.cons (by decide) (Dg.replicate W64_pos 15)) HD.out.2.2
  rw [show val W64 [1, 0, 0, 0, 0, 0, 0, 0, 0, 0, 0, 0, 0, 0, 0, 0] = 1 by simp [val]] at hcall
  obtain ⟨p0, p1, p2, hp⟩ := pathA_three 1 (val W64 M)
  rw [hp] at hcall
  refine hcall.mono ?_
  clear hcall hp
  rintro e w2 ⟨rfl, hf2⟩
  have hR2 := hR0.fr hf2 hR0.lt (fun x => x)
  have hfw2 : Fr w.heap.size no w w2 := hf0.step hf2 hf0.size (fun _ _ x => x)
  clear hO0 hR0 hf0 hf2
  have hr3 : IB ((w2.alloc (.cells #[.int .u64 0, .int .u64 0, .int .u64 0, .int .u64 0, .int .u64 0, .int .u64 0, .int .u64 0, .int .u64 0] 26)).alloc (.cells #[.int .u8 0, .int .u8 0, .int .u8 0] 41)) w2.heap.size .u64 26 (List.replicate 8 0) := by refine IB.alloc (IB.newAt ?_ ?_) _ <;> rfl
  have hp3 : IB (setRow ((w2.alloc (.cells #[.int .u64 0, .int .u64 0, .int .u64 0, .int .u64 0, .int .u64 0, .int .u64 0, .int .u64 0, .int .u64 0] 26)).alloc (.cells #[.int .u8 0, .int .u8 0, .int .u8 0] 41)) w2.heap.size .u64 26 (limbs W64 8 (remF 1 (val W64 M)))) (w2.heap.size + 1) .u8 41 [0, 0, 0] := by refine IB.otherRow (IB.newAt ?_ ?_) (by omega) _ _ _ <;> first | rfl | simp
  go_wp2_with (first
    | ((with_reducible refine wl_store 26 (.tmp 8) (.tmp 21) w2.heap.size .u64 26 (List.replicate 8 0) (limbs W64 8 (remF 1 (val W64 M))) ?_ ?_ hr3 (hl8 _) hs26 ?_); rfl; rfl)
    | ((with_reducible refine wl_store 41 (.tmp 9) (.tmp 22) (w2.heap.size + 1) .u8 41 [0, 0, 0] [p0, p1, p2] ?_ ?_ hp3 rfl hs41 ?_); rfl; rfl))
  have hfw3 : Fr w.heap.size no w (setRow (setRow ((w2.alloc (.cells #[.int .u64 0, .int .u64 0, .int .u64 0, .int .u64 0, .int .u64 0, .int .u64 0, .int .u64 0, .int .u64 0] 26)).alloc (.cells #[.int .u8 0, .int .u8 0, .int .u8 0] 41)) w2.heap.size .u64 26 (limbs W64 8 (remF 1 (val W64 M)))) (w2.heap.size + 1) .u8 41 [p0, p1, p2]) := (((hfw2.alloc hfw2.size _).alloc (by have := hfw2.size; simp; omega) _).setRow (.inl hfw2.size) _ _ _).setRow (.inl (by have := hfw2.size; omega)) _ _ _
  have hr4 : IB (setRow (setRow ((w2.alloc (.cells #[.int .u64 0, .int .u64 0, .int .u64 0, .int .u64 0, .int .u64 0, .int .u64 0, .int .u64 0, .int .u64 0] 26)).alloc (.cells #[.int .u8 0, .int .u8 0, .int .u8 0] 41)) w2.heap.size .u64 26 (limbs W64 8 (remF 1 (val W64 M)))) (w2.heap.size + 1) .u8 41 [p0, p1, p2]) w2.heap.size .u64 26 (limbs W64 8 (remF 1 (val W64 M))) := IB.otherRow (IB.setRow (by simp; omega) _ _ _) (by omega) _ _ _
  have hR4 : IB (setRow (setRow ((w2.alloc (.cells #[.int .u64 0, .int .u64 0, .int .u64 0, .int .u64 0, .int .u64 0, .int .u64 0, .int .u64 0, .int .u64 0] 26)).alloc (.cells #[.int .u8 0, .int .u8 0, .int .u8 0] 41)) w2.heap.size .u64 26 (limbs W64 8 (remF 1 (val W64 M)))) (w2.heap.size + 1) .u8 41 [p0, p1, p2]) w.heap.size .u64 26 (List.replicate 8 0) := by
    have := hR2.lt
    exact IB.otherRow (IB.otherRow ((hR2.alloc _).alloc _) (by omega) _ _ _) (by omega) _ _ _
  have hge : w.heap.size < w2.heap.size := hR2.lt
  clear hr3 hp3 hR2
  generalize setRow (setRow ((w2.alloc (.cells #[.int .u64 0, .int .u64 0, .int .u64 0, .int .u64 0, .int .u64 0, .int .u64 0, .int .u64 0, .int .u64 0] 26)).alloc (.cells #[.int .u8 0, .int .u8 0, .int .u8 0] 41)) w2.heap.size .u64 26 (limbs W64 8 (remF 1 (val W64 M)))) (w2.heap.size + 1) .u8 41 [p0, p1, p2] = w3 at hfw3 hr4 hR4 ⊢
  generalize w2.heap.size = rb at hr4 hge ⊢
  have hfw4 : Fr w.heap.size no w (w3.alloc (.cells #[.int .u64 0, .int .u64 0, .int .u64 0, .int .u64 0, .int .u64 0, .int .u64 0, .int .u64 0, .int .u64 0, .int .u64 0, .int .u64 0, .int .u64 0, .int .u64 0, .int .u64 0, .int .u64 0, .int .u64 0, .int .u64 0] 28)) := hfw3.alloc hfw3.size _
  have hr5 := hr4.alloc (.cells #[.int .u64 0, .int .u64 0, .int .u64 0, .int .u64 0, .int .u64 0, .int .u64 0, .int .u64 0, .int .u64 0, .int .u64 0, .int .u64 0, .int .u64 0, .int .u64 0, .int .u64 0, .int .u64 0, .int .u64 0, .int .u64 0] 28)
  have hR5 := hR4.alloc (.cells #[.int .u64 0, .int .u64 0, .int .u64 0, .int .u64 0, .int .u64 0, .int .u64 0, .int .u64 0, .int .u64 0, .int .u64 0, .int .u64 0, .int .u64 0, .int .u64 0, .int .u64 0, .int .u64 0, .int .u64 0, .int .u64 0] 28)
  have hC5 : IB (w3.alloc (.cells #[.int .u64 0, .int .u64 0, .int .u64 0, .int .u64 0, .int .u64 0, .int .u64 0, .int .u64 0, .int .u64 0, .int .u64 0, .int .u64 0, .int .u64 0, .int .u64 0, .int .u64 0, .int .u64 0, .int .u64 0, .int .u64 0] 28)) w3.heap.size .u64 28 (List.replicate 16 0) := by refine IB.newAt ?_ ?_ <;> rfl
  have hrl := hr4.lt
  have hRl := hR4.lt
  have hUc : w.heap.size ≤ w3.heap.size := hfw3.size
  clear hfw3 hfw2 hr4 hR4
  generalize w3.alloc (.cells #[.int .u64 0, .int .u64 0, .int .u64 0, .int .u64 0, .int .u64 0, .int .u64 0, .int .u64 0, .int .u64 0, .int .u64 0, .int .u64 0, .int .u64 0, .int .u64 0, .int .u64 0, .int .u64 0, .int .u64 0, .int .u64 0] 28) = w4 at hfw4 hr5 hR5 hC5 ⊢
  generalize w3.heap.size = c at hC5 hrl hRl hUc ⊢
  have hSl : Sl w4.drew .u64 (.slice (some ⟨bb, 0, none⟩) 8 8) B := by
    have := Sl.of_ib (hB.fr hfw4 hB.lt (fun x => x)).drew 8 8 (by omega) (Nat.le_refl _) (by decide)
    rwa [List.take_of_length_le (by omega)] at this
  have hC6 := hC5.drew
  obtain ⟨i24, hi24, hs24⟩ := Option.map_eq_some_iff.1 siz24
  go_region_law (refine step_copy 36 36 24 (.tmp 24) (.tmp 27) c 0 16 16 .u64 28 [0, 0, 0, 0, 0, 0, 0, 0, 0, 0, 0, 0, 0, 0, 0, 0] B (.slice (some ⟨bb, 0, none⟩) 8 8) rfl rfl hC6 hSl (by decide) i24 und36 hi24 hs24 ?_)
  have hlay : lay [0, 0, 0, 0, 0, 0, 0, 0, 0, 0, 0, 0, 0, 0, 0, 0] 0 (B.take 16) = B ++ List.replicate 8 0 := by
    rw [List.take_of_length_le (by omega), lay_eq _ _ _ (by simp; omega), lB]
    rfl
  rw [hlay]
  clear hlay hSl hC6 hi24 hs24
  have hf5 : Fr w.heap.size no w (setRow w4.drew c .u64 28 (B ++ List.replicate 8 0)) := hfw4.drew.setRow (.inl hUc) _ _ _
  have hC7 : IB (setRow w4.drew c .u64 28 (B ++ List.replicate 8 0)) c .u64 28 (B ++ List.replicate 8 0) := IB.setRow hC5.lt _ _ _
  have hr7 := hr5.drew.otherRow (b' := c) (by omega) .u64 28 (B ++ List.replicate 8 0)
  have hR7 := hR5.drew.otherRow (b' := c) (by omega) .u64 28 (B ++ List.replicate 8 0)
  clear hfw4 hC5 hr5 hR5
  generalize setRow w4.drew c .u64 28 (B ++ List.replicate 8 0) = w5 at hf5 hC7 hr7 hR7 ⊢
  go_wp2_with fail
  have hcall := rem1024_any _ _ _ _ _ _ w5 hC7 (hM.fr hf5 hM.lt (fun x => x)) (by simp; omega) lM (Dg.append HD.out.1 (Dg.replicate W64_pos 8)) HD.out.2.2
  rw [show val W64 (B ++ List.replicate 8 0) = val W64 B by rw [val_append, val_replicate]; omega] at hcall
  obtain ⟨q0, q1, q2, hq⟩ := pathA_three (val W64 B) (val W64 M)
  rw [hq] at hcall
  refine hcall.mono ?_
  clear hcall hq
  rintro e w6 ⟨rfl, hf6⟩
  have hr8 := hr7.fr hf6 hr7.lt (fun x => x)
  have hR8 := hR7.fr hf6 hR7.lt (fun x => x)
  have hfw6 : Fr w.heap.size no w w6 := hf5.step hf6 hf5.size (fun _ _ x => x)
  clear hC7 hr7 hR7 hf5 hf6 hrl hRl
  have hb3 : IB ((w6.alloc (.cells #[.int .u64 0, .int .u64 0, .int .u64 0, .int .u64 0, .int .u64 0, .int .u64 0, .int .u64 0, .int .u64 0] 26)).alloc (.cells #[.int .u8 0, .int .u8 0, .int .u8 0] 41)) w6.heap.size .u64 26 (List.replicate 8 0) := by refine IB.alloc (IB.newAt ?_ ?_) _ <;> rfl
  have hp3 : IB (setRow ((w6.alloc (.cells #[.int .u64 0, .int .u64 0, .int .u64 0, .int .u64 0, .int .u64 0, .int .u64 0, .int .u64 0, .int .u64 0] 26)).alloc (.cells #[.int .u8 0, .int .u8 0, .int .u8 0] 41)) w6.heap.size .u64 26 (limbs W64 8 (remF (val W64 B) (val W64 M)))) (w6.heap.size + 1) .u8 41 [0, 0, 0] := by refine IB.otherRow (IB.newAt ?_ ?_) (by omega) _ _ _ <;> first | rfl | simp
  go_wp2_with (first
    | ((with_reducible refine wl_store 26 (.tmp 11) (.tmp 32) w6.heap.size .u64 26 (List.replicate 8 0) (limbs W64 8 (remF (val W64 B) (val W64 M))) ?_ ?_ hb3 (hl8 _) hs26 ?_); rfl; rfl)
    | ((with_reducible refine wl_store 41 (.tmp 12) (.tmp 33) (w6.heap.size + 1) .u8 41 [0, 0, 0] [q0, q1, q2] ?_ ?_ hp3 rfl hs41 ?_); rfl; rfl))
  have hfw7 : Fr w.heap.size no w (setRow (setRow ((w6.alloc (.cells #[.int .u64 0, .int .u64 0, .int .u64 0, .int .u64 0, .int .u64 0, .int .u64 0, .int .u64 0, .int .u64 0] 26)).alloc (.cells #[.int .u8 0, .int .u8 0, .int .u8 0] 41)) w6.heap.size .u64 26 (limbs W64 8 (remF (val W64 B) (val W64 M)))) (w6.heap.size + 1) .u8 41 [q0, q1, q2]) := (((hfw6.alloc hfw6.size _).alloc (by have := hfw6.size; simp; omega) _).setRow (.inl hfw6.size) _ _ _).setRow (.inl (by have := hfw6.size; omega)) _ _ _
  have hb9 : IB (setRow (setRow ((w6.alloc (.cells #[.int .u64 0, .int .u64 0, .int .u64 0, .int .u64 0, .int .u64 0, .int .u64 0, .int .u64 0, .int .u64 0] 26)).alloc (.cells #[.int .u8 0, .int .u8 0, .int .u8 0] 41)) w6.heap.size .u64 26 (limbs W64 8 (remF (val W64 B) (val W64 M)))) (w6.heap.size + 1) .u8 41 [q0, q1, q2]) w6.heap.size .u64 26 (limbs W64 8 (remF (val W64 B) (val W64 M))) := IB.otherRow (IB.setRow (by simp; omega) _ _ _) (by omega) _ _ _
  have hr9 : IB (setRow (setRow ((w6.alloc (.cells #[.int .u64 0, .int .u64 0, .int .u64 0, .int .u64 0, .int .u64 0, .int .u64 0, .int .u64 0, .int .u64 0] 26)).alloc (.cells #[.int .u8 0, .int .u8 0, .int .u8 0] 41)) w6.heap.size .u64 26 (limbs W64 8 (remF (val W64 B) (val W64 M)))) (w6.heap.size + 1) .u8 41 [q0, q1, q2]) rb .u64 26 (limbs W64 8 (remF 1 (val W64 M))) := by
    have := hr8.lt
    exact IB.otherRow (IB.otherRow ((hr8.alloc _).alloc _) (by omega) _ _ _) (by omega) _ _ _
  have hR9 : IB (setRow (setRow ((w6.alloc (.cells #[.int .u64 0, .int .u64 0, .int .u64 0, .int .u64 0, .int .u64 0, .int .u64 0, .int .u64 0, .int .u64 0] 26)).alloc (.cells #[.int .u8 0, .int .u8 0, .int .u8 0] 41)) w6.heap.size .u64 26 (limbs W64 8 (remF (val W64 B) (val W64 M)))) (w6.heap.size + 1) .u8 41 [q0, q1, q2]) w.heap.size .u64 26 (List.replicate 8 0) := by
    have := hR8.lt
    exact IB.otherRow (IB.otherRow ((hR8.alloc _).alloc _) (by omega) _ _ _) (by omega) _ _ _
  have hne : rb ≠ w6.heap.size := by have := hr8.lt; omega
  clear hb3 hp3 hR8 hr8
  generalize setRow (setRow ((w6.alloc (.cells #[.int .u64 0, .int .u64 0, .int .u64 0, .int .u64 0, .int .u64 0, .int .u64 0, .int .u64 0, .int .u64 0] 26)).alloc (.cells #[.int .u8 0, .int .u8 0, .int .u8 0] 41)) w6.heap.size .u64 26 (limbs W64 8 (remF (val W64 B) (val W64 M)))) (w6.heap.size + 1) .u8 41 [q0, q1, q2] = w7 at hfw7 hb9 hr9 hR9 ⊢
  generalize w6.heap.size = ab at hb9 hne ⊢
  clear hfw6
  have hs26' : ∀ n, (Sang.prog.info? 26).map (·.size) = some (limbs W64 8 n).length := fun n => by rw [limbs_length]; exact siz26
  have hll : ∀ n n', (limbs W64 8 n).length = (limbs W64 8 n').length := fun n n' => by rw [limbs_length, limbs_length]
  have HPR : Hid (∀ x, powF (val W64 B) x (val W64 M) < W64 ^ 8) := fun x => powF_room _ _ _ HR.out.2.2
  have HAR : Hid (remF (val W64 B) (val W64 M) < W64 ^ 8) := remF_lt _ _ HR.out.2.2
  go_loopw [14, 13] (fun iv sv wr => ∃ (i : Nat) (s : Bool), i ≤ 512 ∧ iv = .int .u64 (i : Int) ∧ sv = .bool s ∧ Hid (s = false → (val W64 E) / 2 ^ i = 0) ∧ Hid (IB wr rb .u64 26 (limbs W64 8 (powF (val W64 B) ((val W64 E) / 2 ^ i) (val W64 M))) ∧ IB wr ab .u64 26 (limbs W64 8 (remF (val W64 B) (val W64 M))) ∧ IB wr w.heap.size .u64 26 (List.replicate 8 0) ∧ Fr w.heap.size no w wr)) (fun i _ _ => (intOf i).toNat)
  case atStart =>
    obtain ⟨n, hn⟩ : ∃ n : Nat, n = 512 := ⟨_, rfl⟩
    have h0 : (val W64 E) / 2 ^ n = 0 := shift_all HR.out.2.1 n (by omega)
    refine ⟨n, false, by omega, by rw [hn]; rfl, rfl, fun _ => h0, ?_, hb9, hR9, hfw7⟩
    rw [h0]
    exact hr9
  case round =>
    obtain ⟨i, s, hi, rfl, rfl, HS, HI⟩ := hrel
    clear hfw7 hr9 hR9 hb9
    cases i with
    | zero =>
      have hr := HI.out.1
      have hR := HI.out.2.2.1
      rw [Nat.pow_zero, Nat.div_one] at hr
      have hfw := HI.out.2.2.2
      clear HI HS
      go_wp2_with (first
        | ((with_reducible refine wl_load 26 (.tmp 8) rb .u64 26 (limbs W64 8 (powF (val W64 B) ((val W64 E)) (val W64 M))) ?_ hr (.array 8 24) und26 ?_ (hs26' _) ?_); rfl; rfl)
        | ((with_reducible refine wl_store 26 (.tmp 6) (.tmp 64) w.heap.size .u64 26 (List.replicate 8 0) (limbs W64 8 (powF (val W64 B) ((val W64 E)) (val W64 M))) ?_ ?_ hR (hl8 _) hs26 ?_); rfl; rfl))
      refine bodyPost_ret (results_cell Sang.results17 rfl (IB.setRow hR.lt _ _ _) _ und26 rfl (hs26' _)) rfl ⟨rfl, ?_⟩
      exact hfw.setRow (.inl (Nat.le_refl _)) _ _ _
    | succ k =>
      have e1 : ((k + 1 : Nat) : Int) - 1 = (k : Int) := by omega
      have hk8 : k / 64 < 8 := by omega
      obtain ⟨d, HDd⟩ : ∃ d : Nat, Hid (E.getD (k / 64) 0 = d) := ⟨_, rfl⟩
      have hce : ∀ w', Fr w.heap.size no w w' → w'.cell? ⟨be, k / 64, none⟩ = some (.int .u64 (d : Int)) := by
        intro w' h
        have := (hE.fr h hE.lt (fun x => x)).cell (k / 64) (by omega)
        rw [HDd.out] at this
        exact this
      have HCE : Hid (∀ w', Fr w.heap.size no w w' → w'.cell? ⟨be, k / 64, none⟩ = some (.int .u64 (d : Int))) := hce
      have HBT : Hid (bits .and .u64 ((d : Int) / 2 ^ (k % 64)) 1 = (((val W64 E) / 2 ^ k % 2 : Nat) : Int)) := by
        unfold Hid
        have e2 : (d : Int) / 2 ^ (k % 64) = ((d / 2 ^ (k % 64) : Nat) : Int) := by simp
        have hd : d < W64 := by rw [← HDd.out]; exact HD.out.2.1.getD W64_pos _
        rw [e2, and1_nat64 _ (Nat.lt_of_le_of_lt (Nat.div_le_self _ _) hd), ← HDd.out, bit_of_limb HD.out.2.1]
      clear hce
      have hfw := HI.out.2.2.2
      have hr := HI.out.1
      have ha := HI.out.2.1
      have hR := HI.out.2.2.1
      clear HI
      cases s with
      | false =>
        have hrm : IB wr rb .u64 26 (limbs W64 8 (powF (val W64 B) (2 * ((val W64 E) / 2 ^ (k + 1))) (val W64 M))) := by
          have h1 := HS.out rfl
          rw [h1] at hr ⊢
          exact hr
        have ham := ha
        have hRm := hR
        have hfm := hfw
        have hc := HCE.out _ hfw
        clear hr ha hR hfw HCE
        by_cases hb : (val W64 E) / 2 ^ k % 2 = 1
        · have hb' : (bits .and .u64 ((d : Int) / 2 ^ (k % 64)) 1 == 1) = true := by rw [HBT.out, hb]; rfl
          have HB1 : Hid ((val W64 E) / 2 ^ k = 2 * ((val W64 E) / 2 ^ (k + 1)) + 1) := shift_bit1 hb
          clear hb HBT
          go_wp2_with fail
          generalize wr = wm at hrm ham hRm hfm hc ⊢
          refine (mul1024N rb ab _ _ wm hrm ham (HPR.out _) HAR.out).mono ?_
          rintro e wn ⟨rfl, hfn⟩
          have hrn := hrm.fr hfn hrm.lt (fun x => x)
          have han := ham.fr hfn ham.lt (fun x => x)
          have hRn := hRm.fr hfn hRm.lt (fun x => x)
          have hfwn := hfm.step hfn hfm.size (fun _ _ x => x)
          clear hrm ham hRm hfm hfn
          go_wp2_with ((with_reducible refine wl_store_new wn #[.int .u64 0, .int .u64 0, .int .u64 0, .int .u64 0, .int .u64 0, .int .u64 0, .int .u64 0, .int .u64 0, .int .u64 0, .int .u64 0, .int .u64 0, .int .u64 0, .int .u64 0, .int .u64 0, .int .u64 0, .int .u64 0] 28 (.tmp 16) (.tmp 58) wn.heap.size .u64 28 (List.replicate 16 0) (limbs W64 16 (powF (val W64 B) (2 * ((val W64 E) / 2 ^ (k + 1))) (val W64 M) * (remF (val W64 B) (val W64 M)))) ?_ ?_ rfl ?_ (hl16 _) hs28 ?_); rfl; rfl; rfl)
          have hro := hrn.alloc (.cells (ints .u64 (limbs W64 16 (powF (val W64 B) (2 * ((val W64 E) / 2 ^ (k + 1))) (val W64 M) * (remF (val W64 B) (val W64 M))))) 28)
          have hao := han.alloc (.cells (ints .u64 (limbs W64 16 (powF (val W64 B) (2 * ((val W64 E) / 2 ^ (k + 1))) (val W64 M) * (remF (val W64 B) (val W64 M))))) 28)
          have hRo := hRn.alloc (.cells (ints .u64 (limbs W64 16 (powF (val W64 B) (2 * ((val W64 E) / 2 ^ (k + 1))) (val W64 M) * (remF (val W64 B) (val W64 M))))) 28)
          have hPo := IB.new wn .u64 28 (limbs W64 16 (powF (val W64 B) (2 * ((val W64 E) / 2 ^ (k + 1))) (val W64 M) * (remF (val W64 B) (val W64 M))))
          have hfo : Fr w.heap.size no w (wn.alloc (.cells (ints .u64 (limbs W64 16 (powF (val W64 B) (2 * ((val W64 E) / 2 ^ (k + 1))) (val W64 M) * (remF (val W64 B) (val W64 M))))) 28)) := hfwn.alloc hfwn.size _
          clear hrn han hRn hfwn
          generalize wn.alloc (.cells (ints .u64 (limbs W64 16 (powF (val W64 B) (2 * ((val W64 E) / 2 ^ (k + 1))) (val W64 M) * (remF (val W64 B) (val W64 M))))) 28) = wo at hro hao hRo hPo hfo ⊢
          generalize wn.heap.size = po at hPo ⊢
          refine (rem1024N po bm tm _ M wo hPo (hM.fr hfo hM.lt (fun x => x)) lM HD.out.2.2 (prod_room (HPR.out _) HAR.out)).mono ?_
          rintro e wp ⟨vp, rfl, hfp⟩
          rw [powF_mul', ← HB1.out]
          have hrp := hro.fr hfp hro.lt (fun x => x)
          have hap := hao.fr hfp hao.lt (fun x => x)
          have hRp := hRo.fr hfp hRo.lt (fun x => x)
          have hfwp := hfo.step hfp hfo.size (fun _ _ x => x)
          clear hro hao hRo hPo hfo hfp
          go_wp2_with ((with_reducible refine wl_store 26 (.tmp 8) (.tmp 62) rb .u64 26 (limbs W64 8 (powF (val W64 B) (2 * ((val W64 E) / 2 ^ (k + 1))) (val W64 M))) (limbs W64 8 (powF (val W64 B) ((val W64 E) / 2 ^ k) (val W64 M))) ?_ ?_ hrp (hll _ _) (hs26' _) ?_); rfl; rfl)
          refine ⟨⟨k, true, by omega, by simp, rfl, fun h => (nomatch h), IB.setRow hrp.lt _ _ _, hap.otherRow (fun h => hne h.symm) _ _ _, hRp.otherRow (by omega) _ _ _, hfwp.setRow (.inl (by omega)) _ _ _⟩, by simp [intOf]⟩
        · have h0 : (val W64 E) / 2 ^ k % 2 = 0 := by
            generalize (val W64 E) / 2 ^ k = t at hb
            omega
          have hb' : (bits .and .u64 ((d : Int) / 2 ^ (k % 64)) 1 == 1) = false := by rw [HBT.out, h0]; rfl
          have HB1 : Hid ((val W64 E) / 2 ^ k = 2 * ((val W64 E) / 2 ^ (k + 1))) := shift_bit0 h0
          clear hb h0 HBT
          rw [← HB1.out] at hrm
          go_wp2_with fail
          refine ⟨⟨k, false, by omega, by simp, rfl, fun _ => ?_, hrm, ham, hRm, hfm⟩, by simp [intOf]⟩
          rw [HB1.out, HS.out rfl]
      | true =>
        have hrp := hr
        go_wp2_with fail
        refine (mul1024N rb rb _ _ wr hr hr (HPR.out _) (HPR.out _)).mono ?_
        rintro e wq ⟨rfl, hfq⟩
        have hrq := hr.fr hfq hr.lt (fun x => x)
        have haq := ha.fr hfq ha.lt (fun x => x)
        have hRq := hR.fr hfq hR.lt (fun x => x)
        have hfwq := hfw.step hfq hfw.size (fun _ _ x => x)
        clear hr ha hR hfw hfq hrp
        go_wp2_with ((with_reducible refine wl_store_new wq #[.int .u64 0, .int .u64 0, .int .u64 0, .int .u64 0, .int .u64 0, .int .u64 0, .int .u64 0, .int .u64 0, .int .u64 0, .int .u64 0, .int .u64 0, .int .u64 0, .int .u64 0, .int .u64 0, .int .u64 0, .int .u64 0] 28 (.tmp 15) (.tmp 39) wq.heap.size .u64 28 (List.replicate 16 0) (limbs W64 16 (powF (val W64 B) ((val W64 E) / 2 ^ (k + 1)) (val W64 M) * powF (val W64 B) ((val W64 E) / 2 ^ (k + 1)) (val W64 M))) ?_ ?_ rfl ?_ (hl16 _) hs28 ?_); rfl; rfl; rfl)
        have hrs := hrq.alloc (.cells (ints .u64 (limbs W64 16 (powF (val W64 B) ((val W64 E) / 2 ^ (k + 1)) (val W64 M) * powF (val W64 B) ((val W64 E) / 2 ^ (k + 1)) (val W64 M)))) 28)
        have has := haq.alloc (.cells (ints .u64 (limbs W64 16 (powF (val W64 B) ((val W64 E) / 2 ^ (k + 1)) (val W64 M) * powF (val W64 B) ((val W64 E) / 2 ^ (k + 1)) (val W64 M)))) 28)
        have hRs := hRq.alloc (.cells (ints .u64 (limbs W64 16 (powF (val W64 B) ((val W64 E) / 2 ^ (k + 1)) (val W64 M) * powF (val W64 B) ((val W64 E) / 2 ^ (k + 1)) (val W64 M)))) 28)
        have hPs := IB.new wq .u64 28 (limbs W64 16 (powF (val W64 B) ((val W64 E) / 2 ^ (k + 1)) (val W64 M) * powF (val W64 B) ((val W64 E) / 2 ^ (k + 1)) (val W64 M)))
        have hfs : Fr w.heap.size no w (wq.alloc (.cells (ints .u64 (limbs W64 16 (powF (val W64 B) ((val W64 E) / 2 ^ (k + 1)) (val W64 M) * powF (val W64 B) ((val W64 E) / 2 ^ (k + 1)) (val W64 M)))) 28)) := hfwq.alloc hfwq.size _
        clear hrq haq hRq hfwq
        generalize wq.alloc (.cells (ints .u64 (limbs W64 16 (powF (val W64 B) ((val W64 E) / 2 ^ (k + 1)) (val W64 M) * powF (val W64 B) ((val W64 E) / 2 ^ (k + 1)) (val W64 M)))) 28) = ws at hrs has hRs hPs hfs ⊢
        generalize wq.heap.size = ps at hPs ⊢
        refine (rem1024N ps bm tm _ M ws hPs (hM.fr hfs hM.lt (fun x => x)) lM HD.out.2.2 (prod_room (HPR.out _) (HPR.out _))).mono ?_
        rintro e wt ⟨vq, rfl, hft⟩
        rw [powF_sq]
        have hrt := hrs.fr hft hrs.lt (fun x => x)
        have hat := has.fr hft has.lt (fun x => x)
        have hRt := hRs.fr hft hRs.lt (fun x => x)
        have hfwt := hfs.step hft hfs.size (fun _ _ x => x)
        clear hrs has hRs hPs hfs hft
        have hrm : IB (setRow wt rb .u64 26 (limbs W64 8 (powF (val W64 B) (2 * ((val W64 E) / 2 ^ (k + 1))) (val W64 M)))) rb .u64 26 (limbs W64 8 (powF (val W64 B) (2 * ((val W64 E) / 2 ^ (k + 1))) (val W64 M))) := IB.setRow hrt.lt _ _ _
        have ham : IB (setRow wt rb .u64 26 (limbs W64 8 (powF (val W64 B) (2 * ((val W64 E) / 2 ^ (k + 1))) (val W64 M)))) ab .u64 26 (limbs W64 8 (remF (val W64 B) (val W64 M))) := hat.otherRow (fun h => hne h.symm) _ _ _
        have hRm : IB (setRow wt rb .u64 26 (limbs W64 8 (powF (val W64 B) (2 * ((val W64 E) / 2 ^ (k + 1))) (val W64 M)))) w.heap.size .u64 26 (List.replicate 8 0) := hRt.otherRow (by omega) _ _ _
        have hfm : Fr w.heap.size no w (setRow wt rb .u64 26 (limbs W64 8 (powF (val W64 B) (2 * ((val W64 E) / 2 ^ (k + 1))) (val W64 M)))) := hfwt.setRow (.inl (by omega)) _ _ _
        have hc := HCE.out _ hfm
        clear HCE hat hRt hfwt
        by_cases hb : (val W64 E) / 2 ^ k % 2 = 1
        · have hb' : (bits .and .u64 ((d : Int) / 2 ^ (k % 64)) 1 == 1) = true := by rw [HBT.out, hb]; rfl
          have HB1 : Hid ((val W64 E) / 2 ^ k = 2 * ((val W64 E) / 2 ^ (k + 1)) + 1) := shift_bit1 hb
          clear hb HBT
          go_wp2_with ((with_reducible refine wl_store 26 (.tmp 8) (.tmp 43) rb .u64 26 (limbs W64 8 (powF (val W64 B) ((val W64 E) / 2 ^ (k + 1)) (val W64 M))) (limbs W64 8 (powF (val W64 B) (2 * ((val W64 E) / 2 ^ (k + 1))) (val W64 M))) ?_ ?_ hrt (hll _ _) (hs26' _) ?_); rfl; rfl)
          generalize setRow wt rb .u64 26 (limbs W64 8 (powF (val W64 B) (2 * ((val W64 E) / 2 ^ (k + 1))) (val W64 M))) = wm at hrm ham hRm hfm hc ⊢
          refine (mul1024N rb ab _ _ wm hrm ham (HPR.out _) HAR.out).mono ?_
          rintro e wn ⟨rfl, hfn⟩
          have hrn := hrm.fr hfn hrm.lt (fun x => x)
          have han := ham.fr hfn ham.lt (fun x => x)
          have hRn := hRm.fr hfn hRm.lt (fun x => x)
          have hfwn := hfm.step hfn hfm.size (fun _ _ x => x)
          clear hrm ham hRm hfm hfn
          go_wp2_with ((with_reducible refine wl_store_new wn #[.int .u64 0, .int .u64 0, .int .u64 0, .int .u64 0, .int .u64 0, .int .u64 0, .int .u64 0, .int .u64 0, .int .u64 0, .int .u64 0, .int .u64 0, .int .u64 0, .int .u64 0, .int .u64 0, .int .u64 0, .int .u64 0] 28 (.tmp 16) (.tmp 58) wn.heap.size .u64 28 (List.replicate 16 0) (limbs W64 16 (powF (val W64 B) (2 * ((val W64 E) / 2 ^ (k + 1))) (val W64 M) * (remF (val W64 B) (val W64 M)))) ?_ ?_ rfl ?_ (hl16 _) hs28 ?_); rfl; rfl; rfl)
          have hro := hrn.alloc (.cells (ints .u64 (limbs W64 16 (powF (val W64 B) (2 * ((val W64 E) / 2 ^ (k + 1))) (val W64 M) * (remF (val W64 B) (val W64 M))))) 28)
          have hao := han.alloc (.cells (ints .u64 (limbs W64 16 (powF (val W64 B) (2 * ((val W64 E) / 2 ^ (k + 1))) (val W64 M) * (remF (val W64 B) (val W64 M))))) 28)
          have hRo := hRn.alloc (.cells (ints .u64 (limbs W64 16 (powF (val W64 B) (2 * ((val W64 E) / 2 ^ (k + 1))) (val W64 M) * (remF (val W64 B) (val W64 M))))) 28)
          have hPo := IB.new wn .u64 28 (limbs W64 16 (powF (val W64 B) (2 * ((val W64 E) / 2 ^ (k + 1))) (val W64 M) * (remF (val W64 B) (val W64 M))))
          have hfo : Fr w.heap.size no w (wn.alloc (.cells (ints .u64 (limbs W64 16 (powF (val W64 B) (2 * ((val W64 E) / 2 ^ (k + 1))) (val W64 M) * (remF (val W64 B) (val W64 M))))) 28)) := hfwn.alloc hfwn.size _
          clear hrn han hRn hfwn
          generalize wn.alloc (.cells (ints .u64 (limbs W64 16 (powF (val W64 B) (2 * ((val W64 E) / 2 ^ (k + 1))) (val W64 M) * (remF (val W64 B) (val W64 M))))) 28) = wo at hro hao hRo hPo hfo ⊢
          generalize wn.heap.size = po at hPo ⊢
          refine (rem1024N po bm tm _ M wo hPo (hM.fr hfo hM.lt (fun x => x)) lM HD.out.2.2 (prod_room (HPR.out _) HAR.out)).mono ?_
          rintro e wp ⟨vp, rfl, hfp⟩
          rw [powF_mul', ← HB1.out]
          have hrp := hro.fr hfp hro.lt (fun x => x)
          have hap := hao.fr hfp hao.lt (fun x => x)
          have hRp := hRo.fr hfp hRo.lt (fun x => x)
          have hfwp := hfo.step hfp hfo.size (fun _ _ x => x)
          clear hro hao hRo hPo hfo hfp
          go_wp2_with ((with_reducible refine wl_store 26 (.tmp 8) (.tmp 62) rb .u64 26 (limbs W64 8 (powF (val W64 B) (2 * ((val W64 E) / 2 ^ (k + 1))) (val W64 M))) (limbs W64 8 (powF (val W64 B) ((val W64 E) / 2 ^ k) (val W64 M))) ?_ ?_ hrp (hll _ _) (hs26' _) ?_); rfl; rfl)
          refine ⟨⟨k, true, by omega, by simp, rfl, fun h => (nomatch h), IB.setRow hrp.lt _ _ _, hap.otherRow (fun h => hne h.symm) _ _ _, hRp.otherRow (by omega) _ _ _, hfwp.setRow (.inl (by omega)) _ _ _⟩, by simp [intOf]⟩
        · have h0 : (val W64 E) / 2 ^ k % 2 = 0 := by
            generalize (val W64 E) / 2 ^ k = t at hb
            omega
          have hb' : (bits .and .u64 ((d : Int) / 2 ^ (k % 64)) 1 == 1) = false := by rw [HBT.out, h0]; rfl
          have HB1 : Hid ((val W64 E) / 2 ^ k = 2 * ((val W64 E) / 2 ^ (k + 1))) := shift_bit0 h0
          clear hb h0 HBT
          go_wp2_with ((with_reducible refine wl_store 26 (.tmp 8) (.tmp 43) rb .u64 26 (limbs W64 8 (powF (val W64 B) ((val W64 E) / 2 ^ (k + 1)) (val W64 M))) (limbs W64 8 (powF (val W64 B) (2 * ((val W64 E) / 2 ^ (k + 1))) (val W64 M))) ?_ ?_ hrt (hll _ _) (hs26' _) ?_); rfl; rfl)
          rw [← HB1.out] at hrm ham hRm hfm ⊢
          refine ⟨⟨k, true, by omega, by simp, rfl, fun h => (nomatch h), hrm, ham, hRm, hfm⟩, by simp [intOf]⟩
end Go.Proofs.Ygcsan
