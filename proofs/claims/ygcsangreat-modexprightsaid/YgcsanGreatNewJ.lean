/-
  modExpWant once more: the result lies in new memory.
-/
import Derived.Test.YgcsanGreatNewE
import Derived.Test.YgcsanGreatWantC
import Derived.Laws.Small
import Derived.Lib.Small
import Derived.Lib.Walk
import Derived.Laws.Bits64b
namespace Go.Proofs.YgcsanGreat
open Go.RowKit
set_option linter.unusedSimpArgs false
set_option linter.unusedVariables false

set_option maxRecDepth 10000 in
set_option maxHeartbeats 600000 in
theorem wantN_azr (lb le lm b e m : Nat) (w : World) (h0 : lb ≤ 64) (h1 : le ≤ 64) (h2 : lm ≤ 64) (hb : b < 256) (he : e < 256) (hm : m < 256) (c1 : lb = 0) (c2 : le = 0) (c3 : 0 < lm ∧ 0 < m) :
    Calls Sang.prog 39 #[.int .u8 (lb : Int), .int .u8 (le : Int), .int .u8 (lm : Int), .int .u8 (b : Int), .int .u8 (e : Int), .int .u8 (m : Int)] w fun e' w' =>
      ∃ v', e' = .returned (.tuple #[v', .int .u64 ((max 200 ((max lb lm + 7) / 8 * ((max lb lm + 7) / 8) * max (blen 0 - 1) 1 / 3) : Nat) : Int), .bool true]) ∧ NewD w.heap.size w' v' (wantOut lm (powF 0 0 m)) ∧ Fr w.heap.size no w w' := by
  obtain ⟨i5, hi5, hz5, hs5, hb5⟩ := info_parts info5
  have g0 : (lb : Int) ≤ 64 := by omega
  have g1 : (le : Int) ≤ 64 := by omega
  have g2 : (lm : Int) ≤ 64 := by omega
  have gb : (b : Int) ≤ 255 := by omega
  have ge : (e : Int) ≤ 255 := by omega
  have gm : (m : Int) ≤ 255 := by omega
  have d1 : ((lb : Int) == 0) = true := by simp; omega
  have d2 : ((le : Int) == 0) = true := by simp; omega
  have d3 : ¬ (32 : Int) < (le : Int) := by omega
  have d4 : (0 : Int) < (lm : Int) := by omega
  have d5 : (0 : Int) < (m : Int) := by omega
  have HS : Hid (lm ≤ 64 ∧ m < 256 ∧ e < 256 ∧ b < 256) := ⟨h2, hm, he, hb⟩
  obtain ⟨M1, HM1⟩ : ∃ M1 : Nat, Hid (∀ _ : Unit, max lb lm = M1) := ⟨_, fun _ => rfl⟩
  have eM1 : max (lb : Int) (lm : Int) = (M1 : Int) := by rw [← HM1.out ()]; omega
  have hM1 : (M1 : Int) ≤ 64 := by rw [← HM1.out ()]; omega
  obtain ⟨wd, HWv⟩ : ∃ wd : Nat, Hid (∀ _ : Unit, (M1 + 7) / 8 = wd) := ⟨_, fun _ => rfl⟩
  have eW : ((M1 : Int) + 7) / 8 = (wd : Int) := by rw [← HWv.out ()]; omega
  have hWd : (wd : Int) ≤ 8 := by rw [← HWv.out ()]; omega
  obtain ⟨S, HSv⟩ : ∃ S : Nat, Hid (∀ _ : Unit, wd * wd = S) := ⟨_, fun _ => rfl⟩
  have eS : (wd : Int) * (wd : Int) = (S : Int) := by rw [← HSv.out ()]; simp
  have HSb : Hid (S ≤ 64) := by
    have h1 : wd * wd ≤ 8 * 8 := Nat.mul_le_mul (by omega) (by omega)
    unfold Hid; rw [← HSv.out ()]; omega
  have hS : (S : Int) ≤ 64 := by have := HSb.out; omega
  rw [HM1.out (), HWv.out (), HSv.out ()]
  have hIB := IB.new w .u8 5 (List.replicate lm 0)
  have hfr : Fr w.heap.size no w (w.alloc (.cells (ints .u8 (List.replicate lm 0)) 5)) := (Fr.refl _ _ _).alloc (Nat.le_refl _) _
  clear h0 h1 h2 hb he hm
  have hlm : Hid (0 < lm ∧ 0 < m) := c3
  clear c1 c2 c3
  go_enter Sang.func39, Sang.ntmps39
  go_wp2_with ((with_reducible refine wl_make 27 5 (.tmp 34) (.tmp 34) .u8 .u8 .u8 lm ?_ ?_ i5 und33 hi5 hz5 hs5 ?_ ?_ ?_); rfl; rfl; (rw [hb5]; have := HS.out; omega); (unfold maxLen; have := HS.out; omega))
  generalize w.alloc (.cells (ints .u8 (List.replicate lm 0)) 5) = w1 at hIB hfr ⊢
  go_loop [16, 15] (fun kv rv => ∃ k r : Nat, k ≤ 0 ∧ kv = .int .u8 (k : Int) ∧ rv = .int .i64 (r : Int) ∧ Hid (∀ _ : Unit, r = powF 0 (0 - k) m)) (fun k _ => (intOf k).toNat)
  case atStart =>
    refine ⟨0, 1 % m, Nat.le_refl _, rfl, ?_, fun _ => ?_⟩
    · first | rfl | (congr 1; omega)
    · rw [Nat.sub_self, powF_zero]; unfold remF; rw [if_neg (by have := hlm.out; omega)]
  case round =>
    obtain ⟨k, r, hk, rfl, rfl, HRv⟩ := hrel
    have HRl : Hid (r < m) := by unfold Hid; rw [HRv.out ()]; exact powF_lt _ _ (by have := hlm.out; omega)
    have hr : (r : Int) ≤ 255 := by have := HRl.out; have := HS.out; omega
    cases k with
    | succ k =>
      exact absurd hk (by omega)
    | zero =>
      obtain ⟨p, HP⟩ : ∃ p : Nat, Hid (∀ _ : Unit, lm = p + 1) := ⟨lm - 1, fun _ => by have := hlm.out; omega⟩
      have ep : (lm : Int) - 1 = (p : Int) := by rw [HP.out ()]; omega
      have hp : (p : Int) < (lm : Int) := by omega
      have hc := hIB.cell p (by simp; omega)
      have hz := hIB.unfrozen p
      generalize (List.replicate lm 0).getD p 0 = z0 at hc
      have HO : Hid (∀ _ : Unit, (List.replicate lm 0).set p r = wantOut lm (powF 0 0 m)) := fun _ => by
        unfold wantOut
        rw [if_neg (by have := HP.out (); omega), HP.out (), List.replicate_succ', List.set_append_right _ _ (by simp), HRv.out ()]
        simp
      have hI2 := hIB.set p r
      have hf2 := hfr.setCell (p := ⟨w.heap.size, p, none⟩) (.inl (Nat.le_refl _)) (.int .u8 (r : Int))
      clear HRv HRl
      go_wp2_with fail
      go_loop [19, 18] (fun kv tv => ∃ k tt : Nat, kv = .int .u8 (k : Int) ∧ tv = .int .u64 (tt : Int) ∧ Hid (∀ _ : Unit, k < 256 ∧ tt + blen k = blen 0 - 1)) (fun k _ => (intOf k).toNat)
      case atStart =>
        exact ⟨0, 0, rfl, rfl, fun _ => ⟨by omega, rfl⟩⟩
      case round =>
        obtain ⟨k, tt, rfl, rfl, HK⟩ := hrel
        have hkt : (tt : Int) ≤ 8 := by
          have h1 := (HK.out ()).2
          have h2 : blen 0 ≤ 8 := Nat.zero_le _
          omega
        have hk2 : (k : Int) < 256 := by have := (HK.out ()).1; omega
        by_cases hk0 : k = 0
        · subst hk0
          have HT : Hid (∀ _ : Unit, blen 0 - 1 = tt) := fun _ => by have := (HK.out ()).2; rw [show blen 0 = 0 from rfl] at this ⊢; omega
          clear HK
          obtain ⟨X, HX⟩ : ∃ X : Nat, Hid (∀ _ : Unit, max (tt) 1 = X) := ⟨_, fun _ => rfl⟩
          have eX : max ((tt : Nat) : Int) 1 = (X : Int) := by rw [← HX.out ()]; omega
          have hX : (X : Int) ≤ 600 := by rw [← HX.out ()]; omega
          obtain ⟨Y, HY⟩ : ∃ Y : Nat, Hid (∀ _ : Unit, S * X = Y) := ⟨_, fun _ => rfl⟩
          have eY : (S : Int) * (X : Int) = (Y : Int) := by rw [← HY.out ()]; simp
          have hY : (Y : Int) ≤ 38400 := by
            have h1 : S * X ≤ 64 * 600 := Nat.mul_le_mul HSb.out (by omega)
            rw [← HY.out ()]; omega
          go_wp2_with fail
          go_ret3
          rw [← HO.out ()]
          refine ⟨.slice (some ⟨w.heap.size, 0, none⟩) lm lm, ?_, ?_, hf2⟩
          · rw [HT.out (), HX.out (), HY.out (), show ((max 200 (Y / 3) : Nat) : Int) = max 200 ((Y : Int) / 3) by omega]
            rfl
          · have := NewD.of_ib (B := w.heap.size) hI2 lm (by simp) (by unfold maxLen; have := HS.out; omega) (Nat.le_refl _)
            rw [List.take_of_length_le (by simp)] at this
            exact this
        · have hk1 : (0 : Int) < (k : Int) := by omega
          have HN : Hid (∀ _ : Unit, tt + 1 + blen (k / 2) = blen 0 - 1 ∧ k / 2 < k) := fun _ => by
            have h1 := (HK.out ()).2
            have h2 := blen_pos hk0
            rw [blen_half]
            omega
          clear hk0
          go_wp2_with fail
          refine ⟨⟨k / 2, tt + 1, by first | rfl | simp, by first | rfl | simp, fun _ => ⟨by omega, (HN.out ()).1⟩⟩, ?_⟩
          have := (HN.out ()).2
          simp [intOf]
          omega

set_option maxRecDepth 10000 in
set_option maxHeartbeats 600000 in
theorem wantN_azl (lb le lm b e m : Nat) (w : World) (h0 : lb ≤ 64) (h1 : le ≤ 64) (h2 : lm ≤ 64) (hb : b < 256) (he : e < 256) (hm : m < 256) (c1 : lb = 0) (c2 : le = 0) (c3 : lm = 0) :
    Calls Sang.prog 39 #[.int .u8 (lb : Int), .int .u8 (le : Int), .int .u8 (lm : Int), .int .u8 (b : Int), .int .u8 (e : Int), .int .u8 (m : Int)] w fun e' w' =>
      ∃ v', e' = .returned (.tuple #[v', .int .u64 ((max 200 ((max lb lm + 7) / 8 * ((max lb lm + 7) / 8) * max (blen 0 - 1) 1 / 3) : Nat) : Int), .bool true]) ∧ NewD w.heap.size w' v' (wantOut lm (powF 0 0 m)) ∧ Fr w.heap.size no w w' := by
  obtain ⟨i5, hi5, hz5, hs5, hb5⟩ := info_parts info5
  have g0 : (lb : Int) ≤ 64 := by omega
  have g1 : (le : Int) ≤ 64 := by omega
  have g2 : (lm : Int) ≤ 64 := by omega
  have gb : (b : Int) ≤ 255 := by omega
  have ge : (e : Int) ≤ 255 := by omega
  have gm : (m : Int) ≤ 255 := by omega
  have d1 : ((lb : Int) == 0) = true := by simp; omega
  have d2 : ((le : Int) == 0) = true := by simp; omega
  have d3 : ¬ (32 : Int) < (le : Int) := by omega
  have d4 : ¬ (0 : Int) < (lm : Int) := by omega
  have HS : Hid (lm ≤ 64 ∧ m < 256 ∧ e < 256 ∧ b < 256) := ⟨h2, hm, he, hb⟩
  obtain ⟨M1, HM1⟩ : ∃ M1 : Nat, Hid (∀ _ : Unit, max lb lm = M1) := ⟨_, fun _ => rfl⟩
  have eM1 : max (lb : Int) (lm : Int) = (M1 : Int) := by rw [← HM1.out ()]; omega
  have hM1 : (M1 : Int) ≤ 64 := by rw [← HM1.out ()]; omega
  obtain ⟨wd, HWv⟩ : ∃ wd : Nat, Hid (∀ _ : Unit, (M1 + 7) / 8 = wd) := ⟨_, fun _ => rfl⟩
  have eW : ((M1 : Int) + 7) / 8 = (wd : Int) := by rw [← HWv.out ()]; omega
  have hWd : (wd : Int) ≤ 8 := by rw [← HWv.out ()]; omega
  obtain ⟨S, HSv⟩ : ∃ S : Nat, Hid (∀ _ : Unit, wd * wd = S) := ⟨_, fun _ => rfl⟩
  have eS : (wd : Int) * (wd : Int) = (S : Int) := by rw [← HSv.out ()]; simp
  have HSb : Hid (S ≤ 64) := by
    have h1 : wd * wd ≤ 8 * 8 := Nat.mul_le_mul (by omega) (by omega)
    unfold Hid; rw [← HSv.out ()]; omega
  have hS : (S : Int) ≤ 64 := by have := HSb.out; omega
  rw [HM1.out (), HWv.out (), HSv.out ()]
  have hIB := IB.new w .u8 5 (List.replicate lm 0)
  have hfr : Fr w.heap.size no w (w.alloc (.cells (ints .u8 (List.replicate lm 0)) 5)) := (Fr.refl _ _ _).alloc (Nat.le_refl _) _
  clear h0 h1 h2 hb he hm
  have HO : Hid (∀ _ : Unit, List.replicate lm 0 = wantOut lm (powF 0 0 m)) := fun _ => by unfold wantOut; rw [if_pos c3, c3]; rfl
  clear c1 c2 c3
  have hI2 := hIB
  have hf2 := hfr
  go_enter Sang.func39, Sang.ntmps39
  go_wp2_with ((with_reducible refine wl_make 27 5 (.tmp 34) (.tmp 34) .u8 .u8 .u8 lm ?_ ?_ i5 und33 hi5 hz5 hs5 ?_ ?_ ?_); rfl; rfl; (rw [hb5]; have := HS.out; omega); (unfold maxLen; have := HS.out; omega))
  generalize w.alloc (.cells (ints .u8 (List.replicate lm 0)) 5) = w1 at hI2 hf2 ⊢
  go_loop [19, 18] (fun kv tv => ∃ k tt : Nat, kv = .int .u8 (k : Int) ∧ tv = .int .u64 (tt : Int) ∧ Hid (∀ _ : Unit, k < 256 ∧ tt + blen k = blen 0 - 1)) (fun k _ => (intOf k).toNat)
  case atStart =>
    exact ⟨0, 0, rfl, rfl, fun _ => ⟨by omega, rfl⟩⟩
  case round =>
    obtain ⟨k, tt, rfl, rfl, HK⟩ := hrel
    have hkt : (tt : Int) ≤ 8 := by
      have h1 := (HK.out ()).2
      have h2 : blen 0 ≤ 8 := Nat.zero_le _
      omega
    have hk2 : (k : Int) < 256 := by have := (HK.out ()).1; omega
    by_cases hk0 : k = 0
    · subst hk0
      have HT : Hid (∀ _ : Unit, blen 0 - 1 = tt) := fun _ => by have := (HK.out ()).2; rw [show blen 0 = 0 from rfl] at this ⊢; omega
      clear HK
      obtain ⟨X, HX⟩ : ∃ X : Nat, Hid (∀ _ : Unit, max (tt) 1 = X) := ⟨_, fun _ => rfl⟩
      have eX : max ((tt : Nat) : Int) 1 = (X : Int) := by rw [← HX.out ()]; omega
      have hX : (X : Int) ≤ 600 := by rw [← HX.out ()]; omega
      obtain ⟨Y, HY⟩ : ∃ Y : Nat, Hid (∀ _ : Unit, S * X = Y) := ⟨_, fun _ => rfl⟩
      have eY : (S : Int) * (X : Int) = (Y : Int) := by rw [← HY.out ()]; simp
      have hY : (Y : Int) ≤ 38400 := by
        have h1 : S * X ≤ 64 * 600 := Nat.mul_le_mul HSb.out (by omega)
        rw [← HY.out ()]; omega
      go_wp2_with fail
      go_ret3
      rw [← HO.out ()]
      refine ⟨.slice (some ⟨w.heap.size, 0, none⟩) lm lm, ?_, ?_, hf2⟩
      · rw [HT.out (), HX.out (), HY.out (), show ((max 200 (Y / 3) : Nat) : Int) = max 200 ((Y : Int) / 3) by omega]
        rfl
      · have := NewD.of_ib (B := w.heap.size) hI2 lm (by simp) (by unfold maxLen; have := HS.out; omega) (Nat.le_refl _)
        rw [List.take_of_length_le (by simp)] at this
        exact this
    · have hk1 : (0 : Int) < (k : Int) := by omega
      have HN : Hid (∀ _ : Unit, tt + 1 + blen (k / 2) = blen 0 - 1 ∧ k / 2 < k) := fun _ => by
        have h1 := (HK.out ()).2
        have h2 := blen_pos hk0
        rw [blen_half]
        omega
      clear hk0
      go_wp2_with fail
      refine ⟨⟨k / 2, tt + 1, by first | rfl | simp, by first | rfl | simp, fun _ => ⟨by omega, (HN.out ()).1⟩⟩, ?_⟩
      have := (HN.out ()).2
      simp [intOf]
      omega

set_option maxRecDepth 10000 in
set_option maxHeartbeats 600000 in
theorem wantN_azm (lb le lm b e m : Nat) (w : World) (h0 : lb ≤ 64) (h1 : le ≤ 64) (h2 : lm ≤ 64) (hb : b < 256) (he : e < 256) (hm : m < 256) (c1 : lb = 0) (c2 : le = 0) (c3 : 0 < lm ∧ m = 0) :
    Calls Sang.prog 39 #[.int .u8 (lb : Int), .int .u8 (le : Int), .int .u8 (lm : Int), .int .u8 (b : Int), .int .u8 (e : Int), .int .u8 (m : Int)] w fun e' w' =>
      ∃ v', e' = .returned (.tuple #[v', .int .u64 ((max 200 ((max lb lm + 7) / 8 * ((max lb lm + 7) / 8) * max (blen 0 - 1) 1 / 3) : Nat) : Int), .bool true]) ∧ NewD w.heap.size w' v' (wantOut lm (powF 0 0 m)) ∧ Fr w.heap.size no w w' := by
  obtain ⟨i5, hi5, hz5, hs5, hb5⟩ := info_parts info5
  have g0 : (lb : Int) ≤ 64 := by omega
  have g1 : (le : Int) ≤ 64 := by omega
  have g2 : (lm : Int) ≤ 64 := by omega
  have gb : (b : Int) ≤ 255 := by omega
  have ge : (e : Int) ≤ 255 := by omega
  have gm : (m : Int) ≤ 255 := by omega
  have d1 : ((lb : Int) == 0) = true := by simp; omega
  have d2 : ((le : Int) == 0) = true := by simp; omega
  have d3 : ¬ (32 : Int) < (le : Int) := by omega
  have d4 : (0 : Int) < (lm : Int) := by omega
  have d5 : ¬ (0 : Int) < (m : Int) := by omega
  have HS : Hid (lm ≤ 64 ∧ m < 256 ∧ e < 256 ∧ b < 256) := ⟨h2, hm, he, hb⟩
  obtain ⟨M1, HM1⟩ : ∃ M1 : Nat, Hid (∀ _ : Unit, max lb lm = M1) := ⟨_, fun _ => rfl⟩
  have eM1 : max (lb : Int) (lm : Int) = (M1 : Int) := by rw [← HM1.out ()]; omega
  have hM1 : (M1 : Int) ≤ 64 := by rw [← HM1.out ()]; omega
  obtain ⟨wd, HWv⟩ : ∃ wd : Nat, Hid (∀ _ : Unit, (M1 + 7) / 8 = wd) := ⟨_, fun _ => rfl⟩
  have eW : ((M1 : Int) + 7) / 8 = (wd : Int) := by rw [← HWv.out ()]; omega
  have hWd : (wd : Int) ≤ 8 := by rw [← HWv.out ()]; omega
  obtain ⟨S, HSv⟩ : ∃ S : Nat, Hid (∀ _ : Unit, wd * wd = S) := ⟨_, fun _ => rfl⟩
  have eS : (wd : Int) * (wd : Int) = (S : Int) := by rw [← HSv.out ()]; simp
  have HSb : Hid (S ≤ 64) := by
    have h1 : wd * wd ≤ 8 * 8 := Nat.mul_le_mul (by omega) (by omega)
    unfold Hid; rw [← HSv.out ()]; omega
  have hS : (S : Int) ≤ 64 := by have := HSb.out; omega
  rw [HM1.out (), HWv.out (), HSv.out ()]
  have hIB := IB.new w .u8 5 (List.replicate lm 0)
  have hfr : Fr w.heap.size no w (w.alloc (.cells (ints .u8 (List.replicate lm 0)) 5)) := (Fr.refl _ _ _).alloc (Nat.le_refl _) _
  clear h0 h1 h2 hb he hm
  have HO : Hid (∀ _ : Unit, List.replicate lm 0 = wantOut lm (powF 0 0 m)) := fun _ => by
    unfold wantOut
    rw [if_neg (by omega), c3.2, powF_none, ← List.replicate_succ', show lm - 1 + 1 = lm by omega]
  clear c1 c2 c3
  have hI2 := hIB
  have hf2 := hfr
  go_enter Sang.func39, Sang.ntmps39
  go_wp2_with ((with_reducible refine wl_make 27 5 (.tmp 34) (.tmp 34) .u8 .u8 .u8 lm ?_ ?_ i5 und33 hi5 hz5 hs5 ?_ ?_ ?_); rfl; rfl; (rw [hb5]; have := HS.out; omega); (unfold maxLen; have := HS.out; omega))
  generalize w.alloc (.cells (ints .u8 (List.replicate lm 0)) 5) = w1 at hI2 hf2 ⊢
  go_loop [19, 18] (fun kv tv => ∃ k tt : Nat, kv = .int .u8 (k : Int) ∧ tv = .int .u64 (tt : Int) ∧ Hid (∀ _ : Unit, k < 256 ∧ tt + blen k = blen 0 - 1)) (fun k _ => (intOf k).toNat)
  case atStart =>
    exact ⟨0, 0, rfl, rfl, fun _ => ⟨by omega, rfl⟩⟩
  case round =>
    obtain ⟨k, tt, rfl, rfl, HK⟩ := hrel
    have hkt : (tt : Int) ≤ 8 := by
      have h1 := (HK.out ()).2
      have h2 : blen 0 ≤ 8 := Nat.zero_le _
      omega
    have hk2 : (k : Int) < 256 := by have := (HK.out ()).1; omega
    by_cases hk0 : k = 0
    · subst hk0
      have HT : Hid (∀ _ : Unit, blen 0 - 1 = tt) := fun _ => by have := (HK.out ()).2; rw [show blen 0 = 0 from rfl] at this ⊢; omega
      clear HK
      obtain ⟨X, HX⟩ : ∃ X : Nat, Hid (∀ _ : Unit, max (tt) 1 = X) := ⟨_, fun _ => rfl⟩
      have eX : max ((tt : Nat) : Int) 1 = (X : Int) := by rw [← HX.out ()]; omega
      have hX : (X : Int) ≤ 600 := by rw [← HX.out ()]; omega
      obtain ⟨Y, HY⟩ : ∃ Y : Nat, Hid (∀ _ : Unit, S * X = Y) := ⟨_, fun _ => rfl⟩
      have eY : (S : Int) * (X : Int) = (Y : Int) := by rw [← HY.out ()]; simp
      have hY : (Y : Int) ≤ 38400 := by
        have h1 : S * X ≤ 64 * 600 := Nat.mul_le_mul HSb.out (by omega)
        rw [← HY.out ()]; omega
      go_wp2_with fail
      go_ret3
      rw [← HO.out ()]
      refine ⟨.slice (some ⟨w.heap.size, 0, none⟩) lm lm, ?_, ?_, hf2⟩
      · rw [HT.out (), HX.out (), HY.out (), show ((max 200 (Y / 3) : Nat) : Int) = max 200 ((Y : Int) / 3) by omega]
        rfl
      · have := NewD.of_ib (B := w.heap.size) hI2 lm (by simp) (by unfold maxLen; have := HS.out; omega) (Nat.le_refl _)
        rw [List.take_of_length_le (by simp)] at this
        exact this
    · have hk1 : (0 : Int) < (k : Int) := by omega
      have HN : Hid (∀ _ : Unit, tt + 1 + blen (k / 2) = blen 0 - 1 ∧ k / 2 < k) := fun _ => by
        have h1 := (HK.out ()).2
        have h2 := blen_pos hk0
        rw [blen_half]
        omega
      clear hk0
      go_wp2_with fail
      refine ⟨⟨k / 2, tt + 1, by first | rfl | simp, by first | rfl | simp, fun _ => ⟨by omega, (HN.out ()).1⟩⟩, ?_⟩
      have := (HN.out ()).2
      simp [intOf]
      omega

set_option maxRecDepth 10000 in
set_option maxHeartbeats 600000 in
theorem wantN_asr (lb le lm b e m : Nat) (w : World) (h0 : lb ≤ 64) (h1 : le ≤ 64) (h2 : lm ≤ 64) (hb : b < 256) (he : e < 256) (hm : m < 256) (c1 : lb = 0) (c2 : 0 < le ∧ le ≤ 32) (c3 : 0 < lm ∧ 0 < m) :
    Calls Sang.prog 39 #[.int .u8 (lb : Int), .int .u8 (le : Int), .int .u8 (lm : Int), .int .u8 (b : Int), .int .u8 (e : Int), .int .u8 (m : Int)] w fun e' w' =>
      ∃ v', e' = .returned (.tuple #[v', .int .u64 ((max 200 ((max lb lm + 7) / 8 * ((max lb lm + 7) / 8) * max (blen e - 1) 1 / 3) : Nat) : Int), .bool true]) ∧ NewD w.heap.size w' v' (wantOut lm (powF 0 e m)) ∧ Fr w.heap.size no w w' := by
  obtain ⟨i5, hi5, hz5, hs5, hb5⟩ := info_parts info5
  have g0 : (lb : Int) ≤ 64 := by omega
  have g1 : (le : Int) ≤ 64 := by omega
  have g2 : (lm : Int) ≤ 64 := by omega
  have gb : (b : Int) ≤ 255 := by omega
  have ge : (e : Int) ≤ 255 := by omega
  have gm : (m : Int) ≤ 255 := by omega
  have d1 : ((lb : Int) == 0) = true := by simp; omega
  have d2 : ((le : Int) == 0) = false := by simp; omega
  have d3 : ¬ (32 : Int) < (le : Int) := by omega
  have d4 : (0 : Int) < (lm : Int) := by omega
  have d5 : (0 : Int) < (m : Int) := by omega
  have HS : Hid (lm ≤ 64 ∧ m < 256 ∧ e < 256 ∧ b < 256) := ⟨h2, hm, he, hb⟩
  obtain ⟨M1, HM1⟩ : ∃ M1 : Nat, Hid (∀ _ : Unit, max lb lm = M1) := ⟨_, fun _ => rfl⟩
  have eM1 : max (lb : Int) (lm : Int) = (M1 : Int) := by rw [← HM1.out ()]; omega
  have hM1 : (M1 : Int) ≤ 64 := by rw [← HM1.out ()]; omega
  obtain ⟨wd, HWv⟩ : ∃ wd : Nat, Hid (∀ _ : Unit, (M1 + 7) / 8 = wd) := ⟨_, fun _ => rfl⟩
  have eW : ((M1 : Int) + 7) / 8 = (wd : Int) := by rw [← HWv.out ()]; omega
  have hWd : (wd : Int) ≤ 8 := by rw [← HWv.out ()]; omega
  obtain ⟨S, HSv⟩ : ∃ S : Nat, Hid (∀ _ : Unit, wd * wd = S) := ⟨_, fun _ => rfl⟩
  have eS : (wd : Int) * (wd : Int) = (S : Int) := by rw [← HSv.out ()]; simp
  have HSb : Hid (S ≤ 64) := by
    have h1 : wd * wd ≤ 8 * 8 := Nat.mul_le_mul (by omega) (by omega)
    unfold Hid; rw [← HSv.out ()]; omega
  have hS : (S : Int) ≤ 64 := by have := HSb.out; omega
  rw [HM1.out (), HWv.out (), HSv.out ()]
  have hIB := IB.new w .u8 5 (List.replicate lm 0)
  have hfr : Fr w.heap.size no w (w.alloc (.cells (ints .u8 (List.replicate lm 0)) 5)) := (Fr.refl _ _ _).alloc (Nat.le_refl _) _
  clear h0 h1 h2 hb he hm
  have hlm : Hid (0 < lm ∧ 0 < m) := c3
  clear c1 c2 c3
  go_enter Sang.func39, Sang.ntmps39
  go_wp2_with ((with_reducible refine wl_make 27 5 (.tmp 34) (.tmp 34) .u8 .u8 .u8 lm ?_ ?_ i5 und33 hi5 hz5 hs5 ?_ ?_ ?_); rfl; rfl; (rw [hb5]; have := HS.out; omega); (unfold maxLen; have := HS.out; omega))
  generalize w.alloc (.cells (ints .u8 (List.replicate lm 0)) 5) = w1 at hIB hfr ⊢
  go_loop [16, 15] (fun kv rv => ∃ k r : Nat, k ≤ e ∧ kv = .int .u8 (k : Int) ∧ rv = .int .i64 (r : Int) ∧ Hid (∀ _ : Unit, r = powF 0 (e - k) m)) (fun k _ => (intOf k).toNat)
  case atStart =>
    refine ⟨e, 1 % m, Nat.le_refl _, rfl, ?_, fun _ => ?_⟩
    · first | rfl | (congr 1; omega)
    · rw [Nat.sub_self, powF_zero]; unfold remF; rw [if_neg (by have := hlm.out; omega)]
  case round =>
    obtain ⟨k, r, hk, rfl, rfl, HRv⟩ := hrel
    have HRl : Hid (r < m) := by unfold Hid; rw [HRv.out ()]; exact powF_lt _ _ (by have := hlm.out; omega)
    have hr : (r : Int) ≤ 255 := by have := HRl.out; have := HS.out; omega
    cases k with
    | succ k =>
      have HN : Hid (∀ _ : Unit, r * 0 % m = powF 0 (e - k) m) := fun _ => by
        rw [show e - k = (e - (k + 1)) + 1 by omega, ← powF_mul, ← HRv.out ()]
        unfold remF
        rw [if_neg (by have := hlm.out; omega)]
      have ek : ((k + 1 : Nat) : Int) - 1 = (k : Int) := by omega
      rw [Nat.mul_zero, Nat.zero_mod] at HN
      go_wp2_with fail
      exact ⟨⟨k, 0, by omega, by simp, by simp, HN⟩, by simp [intOf]⟩
    | zero =>
      obtain ⟨p, HP⟩ : ∃ p : Nat, Hid (∀ _ : Unit, lm = p + 1) := ⟨lm - 1, fun _ => by have := hlm.out; omega⟩
      have ep : (lm : Int) - 1 = (p : Int) := by rw [HP.out ()]; omega
      have hp : (p : Int) < (lm : Int) := by omega
      have hc := hIB.cell p (by simp; omega)
      have hz := hIB.unfrozen p
      generalize (List.replicate lm 0).getD p 0 = z0 at hc
      have HO : Hid (∀ _ : Unit, (List.replicate lm 0).set p r = wantOut lm (powF 0 e m)) := fun _ => by
        unfold wantOut
        rw [if_neg (by have := HP.out (); omega), HP.out (), List.replicate_succ', List.set_append_right _ _ (by simp), HRv.out ()]
        simp
      have hI2 := hIB.set p r
      have hf2 := hfr.setCell (p := ⟨w.heap.size, p, none⟩) (.inl (Nat.le_refl _)) (.int .u8 (r : Int))
      clear HRv HRl
      go_wp2_with fail
      go_loop [19, 18] (fun kv tv => ∃ k tt : Nat, kv = .int .u8 (k : Int) ∧ tv = .int .u64 (tt : Int) ∧ Hid (∀ _ : Unit, k < 256 ∧ tt + blen k = blen e - 1)) (fun k _ => (intOf k).toNat)
      case atStart =>
        refine ⟨e / 2, 0, by first | rfl | simp, rfl, fun _ => ⟨by have := HS.out; omega, ?_⟩⟩
        rw [blen_half]; omega
      case round =>
        obtain ⟨k, tt, rfl, rfl, HK⟩ := hrel
        have hkt : (tt : Int) ≤ 8 := by
          have h1 := (HK.out ()).2
          have h2 : blen e ≤ 8 := blen_small HS.out.2.2.1
          omega
        have hk2 : (k : Int) < 256 := by have := (HK.out ()).1; omega
        by_cases hk0 : k = 0
        · subst hk0
          have HT : Hid (∀ _ : Unit, blen e - 1 = tt) := fun _ => by have := (HK.out ()).2; rw [show blen 0 = 0 from rfl] at this; omega
          clear HK
          obtain ⟨X, HX⟩ : ∃ X : Nat, Hid (∀ _ : Unit, max (tt) 1 = X) := ⟨_, fun _ => rfl⟩
          have eX : max ((tt : Nat) : Int) 1 = (X : Int) := by rw [← HX.out ()]; omega
          have hX : (X : Int) ≤ 600 := by rw [← HX.out ()]; omega
          obtain ⟨Y, HY⟩ : ∃ Y : Nat, Hid (∀ _ : Unit, S * X = Y) := ⟨_, fun _ => rfl⟩
          have eY : (S : Int) * (X : Int) = (Y : Int) := by rw [← HY.out ()]; simp
          have hY : (Y : Int) ≤ 38400 := by
            have h1 : S * X ≤ 64 * 600 := Nat.mul_le_mul HSb.out (by omega)
            rw [← HY.out ()]; omega
          go_wp2_with fail
          go_ret3
          rw [← HO.out ()]
          refine ⟨.slice (some ⟨w.heap.size, 0, none⟩) lm lm, ?_, ?_, hf2⟩
          · rw [HT.out (), HX.out (), HY.out (), show ((max 200 (Y / 3) : Nat) : Int) = max 200 ((Y : Int) / 3) by omega]
            rfl
          · have := NewD.of_ib (B := w.heap.size) hI2 lm (by simp) (by unfold maxLen; have := HS.out; omega) (Nat.le_refl _)
            rw [List.take_of_length_le (by simp)] at this
            exact this
        · have hk1 : (0 : Int) < (k : Int) := by omega
          have HN : Hid (∀ _ : Unit, tt + 1 + blen (k / 2) = blen e - 1 ∧ k / 2 < k) := fun _ => by
            have h1 := (HK.out ()).2
            have h2 := blen_pos hk0
            rw [blen_half]
            omega
          clear hk0
          go_wp2_with fail
          refine ⟨⟨k / 2, tt + 1, by first | rfl | simp, by first | rfl | simp, fun _ => ⟨by omega, (HN.out ()).1⟩⟩, ?_⟩
          have := (HN.out ()).2
          simp [intOf]
          omega

set_option maxRecDepth 10000 in
set_option maxHeartbeats 600000 in
theorem wantN_asl (lb le lm b e m : Nat) (w : World) (h0 : lb ≤ 64) (h1 : le ≤ 64) (h2 : lm ≤ 64) (hb : b < 256) (he : e < 256) (hm : m < 256) (c1 : lb = 0) (c2 : 0 < le ∧ le ≤ 32) (c3 : lm = 0) :
    Calls Sang.prog 39 #[.int .u8 (lb : Int), .int .u8 (le : Int), .int .u8 (lm : Int), .int .u8 (b : Int), .int .u8 (e : Int), .int .u8 (m : Int)] w fun e' w' =>
      ∃ v', e' = .returned (.tuple #[v', .int .u64 ((max 200 ((max lb lm + 7) / 8 * ((max lb lm + 7) / 8) * max (blen e - 1) 1 / 3) : Nat) : Int), .bool true]) ∧ NewD w.heap.size w' v' (wantOut lm (powF 0 e m)) ∧ Fr w.heap.size no w w' := by
  obtain ⟨i5, hi5, hz5, hs5, hb5⟩ := info_parts info5
  have g0 : (lb : Int) ≤ 64 := by omega
  have g1 : (le : Int) ≤ 64 := by omega
  have g2 : (lm : Int) ≤ 64 := by omega
  have gb : (b : Int) ≤ 255 := by omega
  have ge : (e : Int) ≤ 255 := by omega
  have gm : (m : Int) ≤ 255 := by omega
  have d1 : ((lb : Int) == 0) = true := by simp; omega
  have d2 : ((le : Int) == 0) = false := by simp; omega
  have d3 : ¬ (32 : Int) < (le : Int) := by omega
  have d4 : ¬ (0 : Int) < (lm : Int) := by omega
  have HS : Hid (lm ≤ 64 ∧ m < 256 ∧ e < 256 ∧ b < 256) := ⟨h2, hm, he, hb⟩
  obtain ⟨M1, HM1⟩ : ∃ M1 : Nat, Hid (∀ _ : Unit, max lb lm = M1) := ⟨_, fun _ => rfl⟩
  have eM1 : max (lb : Int) (lm : Int) = (M1 : Int) := by rw [← HM1.out ()]; omega
  have hM1 : (M1 : Int) ≤ 64 := by rw [← HM1.out ()]; omega
  obtain ⟨wd, HWv⟩ : ∃ wd : Nat, Hid (∀ _ : Unit, (M1 + 7) / 8 = wd) := ⟨_, fun _ => rfl⟩
  have eW : ((M1 : Int) + 7) / 8 = (wd : Int) := by rw [← HWv.out ()]; omega
  have hWd : (wd : Int) ≤ 8 := by rw [← HWv.out ()]; omega
  obtain ⟨S, HSv⟩ : ∃ S : Nat, Hid (∀ _ : Unit, wd * wd = S) := ⟨_, fun _ => rfl⟩
  have eS : (wd : Int) * (wd : Int) = (S : Int) := by rw [← HSv.out ()]; simp
  have HSb : Hid (S ≤ 64) := by
    have h1 : wd * wd ≤ 8 * 8 := Nat.mul_le_mul (by omega) (by omega)
    unfold Hid; rw [← HSv.out ()]; omega
  have hS : (S : Int) ≤ 64 := by have := HSb.out; omega
  rw [HM1.out (), HWv.out (), HSv.out ()]
  have hIB := IB.new w .u8 5 (List.replicate lm 0)
  have hfr : Fr w.heap.size no w (w.alloc (.cells (ints .u8 (List.replicate lm 0)) 5)) := (Fr.refl _ _ _).alloc (Nat.le_refl _) _
  clear h0 h1 h2 hb he hm
  have HO : Hid (∀ _ : Unit, List.replicate lm 0 = wantOut lm (powF 0 e m)) := fun _ => by unfold wantOut; rw [if_pos c3, c3]; rfl
  clear c1 c2 c3
  have hI2 := hIB
  have hf2 := hfr
  go_enter Sang.func39, Sang.ntmps39
  go_wp2_with ((with_reducible refine wl_make 27 5 (.tmp 34) (.tmp 34) .u8 .u8 .u8 lm ?_ ?_ i5 und33 hi5 hz5 hs5 ?_ ?_ ?_); rfl; rfl; (rw [hb5]; have := HS.out; omega); (unfold maxLen; have := HS.out; omega))
  generalize w.alloc (.cells (ints .u8 (List.replicate lm 0)) 5) = w1 at hI2 hf2 ⊢
  go_loop [19, 18] (fun kv tv => ∃ k tt : Nat, kv = .int .u8 (k : Int) ∧ tv = .int .u64 (tt : Int) ∧ Hid (∀ _ : Unit, k < 256 ∧ tt + blen k = blen e - 1)) (fun k _ => (intOf k).toNat)
  case atStart =>
    refine ⟨e / 2, 0, by first | rfl | simp, rfl, fun _ => ⟨by have := HS.out; omega, ?_⟩⟩
    rw [blen_half]; omega
  case round =>
    obtain ⟨k, tt, rfl, rfl, HK⟩ := hrel
    have hkt : (tt : Int) ≤ 8 := by
      have h1 := (HK.out ()).2
      have h2 : blen e ≤ 8 := blen_small HS.out.2.2.1
      omega
    have hk2 : (k : Int) < 256 := by have := (HK.out ()).1; omega
    by_cases hk0 : k = 0
    · subst hk0
      have HT : Hid (∀ _ : Unit, blen e - 1 = tt) := fun _ => by have := (HK.out ()).2; rw [show blen 0 = 0 from rfl] at this; omega
      clear HK
      obtain ⟨X, HX⟩ : ∃ X : Nat, Hid (∀ _ : Unit, max (tt) 1 = X) := ⟨_, fun _ => rfl⟩
      have eX : max ((tt : Nat) : Int) 1 = (X : Int) := by rw [← HX.out ()]; omega
      have hX : (X : Int) ≤ 600 := by rw [← HX.out ()]; omega
      obtain ⟨Y, HY⟩ : ∃ Y : Nat, Hid (∀ _ : Unit, S * X = Y) := ⟨_, fun _ => rfl⟩
      have eY : (S : Int) * (X : Int) = (Y : Int) := by rw [← HY.out ()]; simp
      have hY : (Y : Int) ≤ 38400 := by
        have h1 : S * X ≤ 64 * 600 := Nat.mul_le_mul HSb.out (by omega)
        rw [← HY.out ()]; omega
      go_wp2_with fail
      go_ret3
      rw [← HO.out ()]
      refine ⟨.slice (some ⟨w.heap.size, 0, none⟩) lm lm, ?_, ?_, hf2⟩
      · rw [HT.out (), HX.out (), HY.out (), show ((max 200 (Y / 3) : Nat) : Int) = max 200 ((Y : Int) / 3) by omega]
        rfl
      · have := NewD.of_ib (B := w.heap.size) hI2 lm (by simp) (by unfold maxLen; have := HS.out; omega) (Nat.le_refl _)
        rw [List.take_of_length_le (by simp)] at this
        exact this
    · have hk1 : (0 : Int) < (k : Int) := by omega
      have HN : Hid (∀ _ : Unit, tt + 1 + blen (k / 2) = blen e - 1 ∧ k / 2 < k) := fun _ => by
        have h1 := (HK.out ()).2
        have h2 := blen_pos hk0
        rw [blen_half]
        omega
      clear hk0
      go_wp2_with fail
      refine ⟨⟨k / 2, tt + 1, by first | rfl | simp, by first | rfl | simp, fun _ => ⟨by omega, (HN.out ()).1⟩⟩, ?_⟩
      have := (HN.out ()).2
      simp [intOf]
      omega

set_option maxRecDepth 10000 in
set_option maxHeartbeats 600000 in
theorem wantN_asm (lb le lm b e m : Nat) (w : World) (h0 : lb ≤ 64) (h1 : le ≤ 64) (h2 : lm ≤ 64) (hb : b < 256) (he : e < 256) (hm : m < 256) (c1 : lb = 0) (c2 : 0 < le ∧ le ≤ 32) (c3 : 0 < lm ∧ m = 0) :
    Calls Sang.prog 39 #[.int .u8 (lb : Int), .int .u8 (le : Int), .int .u8 (lm : Int), .int .u8 (b : Int), .int .u8 (e : Int), .int .u8 (m : Int)] w fun e' w' =>
      ∃ v', e' = .returned (.tuple #[v', .int .u64 ((max 200 ((max lb lm + 7) / 8 * ((max lb lm + 7) / 8) * max (blen e - 1) 1 / 3) : Nat) : Int), .bool true]) ∧ NewD w.heap.size w' v' (wantOut lm (powF 0 e m)) ∧ Fr w.heap.size no w w' := by
  obtain ⟨i5, hi5, hz5, hs5, hb5⟩ := info_parts info5
  have g0 : (lb : Int) ≤ 64 := by omega
  have g1 : (le : Int) ≤ 64 := by omega
  have g2 : (lm : Int) ≤ 64 := by omega
  have gb : (b : Int) ≤ 255 := by omega
  have ge : (e : Int) ≤ 255 := by omega
  have gm : (m : Int) ≤ 255 := by omega
  have d1 : ((lb : Int) == 0) = true := by simp; omega
  have d2 : ((le : Int) == 0) = false := by simp; omega
  have d3 : ¬ (32 : Int) < (le : Int) := by omega
  have d4 : (0 : Int) < (lm : Int) := by omega
  have d5 : ¬ (0 : Int) < (m : Int) := by omega
  have HS : Hid (lm ≤ 64 ∧ m < 256 ∧ e < 256 ∧ b < 256) := ⟨h2, hm, he, hb⟩
  obtain ⟨M1, HM1⟩ : ∃ M1 : Nat, Hid (∀ _ : Unit, max lb lm = M1) := ⟨_, fun _ => rfl⟩
  have eM1 : max (lb : Int) (lm : Int) = (M1 : Int) := by rw [← HM1.out ()]; omega
  have hM1 : (M1 : Int) ≤ 64 := by rw [← HM1.out ()]; omega
  obtain ⟨wd, HWv⟩ : ∃ wd : Nat, Hid (∀ _ : Unit, (M1 + 7) / 8 = wd) := ⟨_, fun _ => rfl⟩
  have eW : ((M1 : Int) + 7) / 8 = (wd : Int) := by rw [← HWv.out ()]; omega
  have hWd : (wd : Int) ≤ 8 := by rw [← HWv.out ()]; omega
  obtain ⟨S, HSv⟩ : ∃ S : Nat, Hid (∀ _ : Unit, wd * wd = S) := ⟨_, fun _ => rfl⟩
  have eS : (wd : Int) * (wd : Int) = (S : Int) := by rw [← HSv.out ()]; simp
  have HSb : Hid (S ≤ 64) := by
    have h1 : wd * wd ≤ 8 * 8 := Nat.mul_le_mul (by omega) (by omega)
    unfold Hid; rw [← HSv.out ()]; omega
  have hS : (S : Int) ≤ 64 := by have := HSb.out; omega
  rw [HM1.out (), HWv.out (), HSv.out ()]
  have hIB := IB.new w .u8 5 (List.replicate lm 0)
  have hfr : Fr w.heap.size no w (w.alloc (.cells (ints .u8 (List.replicate lm 0)) 5)) := (Fr.refl _ _ _).alloc (Nat.le_refl _) _
  clear h0 h1 h2 hb he hm
  have HO : Hid (∀ _ : Unit, List.replicate lm 0 = wantOut lm (powF 0 e m)) := fun _ => by
    unfold wantOut
    rw [if_neg (by omega), c3.2, powF_none, ← List.replicate_succ', show lm - 1 + 1 = lm by omega]
  clear c1 c2 c3
  have hI2 := hIB
  have hf2 := hfr
  go_enter Sang.func39, Sang.ntmps39
  go_wp2_with ((with_reducible refine wl_make 27 5 (.tmp 34) (.tmp 34) .u8 .u8 .u8 lm ?_ ?_ i5 und33 hi5 hz5 hs5 ?_ ?_ ?_); rfl; rfl; (rw [hb5]; have := HS.out; omega); (unfold maxLen; have := HS.out; omega))
  generalize w.alloc (.cells (ints .u8 (List.replicate lm 0)) 5) = w1 at hI2 hf2 ⊢
  go_loop [19, 18] (fun kv tv => ∃ k tt : Nat, kv = .int .u8 (k : Int) ∧ tv = .int .u64 (tt : Int) ∧ Hid (∀ _ : Unit, k < 256 ∧ tt + blen k = blen e - 1)) (fun k _ => (intOf k).toNat)
  case atStart =>
    refine ⟨e / 2, 0, by first | rfl | simp, rfl, fun _ => ⟨by have := HS.out; omega, ?_⟩⟩
    rw [blen_half]; omega
  case round =>
    obtain ⟨k, tt, rfl, rfl, HK⟩ := hrel
    have hkt : (tt : Int) ≤ 8 := by
      have h1 := (HK.out ()).2
      have h2 : blen e ≤ 8 := blen_small HS.out.2.2.1
      omega
    have hk2 : (k : Int) < 256 := by have := (HK.out ()).1; omega
    by_cases hk0 : k = 0
    · subst hk0
      have HT : Hid (∀ _ : Unit, blen e - 1 = tt) := fun _ => by have := (HK.out ()).2; rw [show blen 0 = 0 from rfl] at this; omega
      clear HK
      obtain ⟨X, HX⟩ : ∃ X : Nat, Hid (∀ _ : Unit, max (tt) 1 = X) := ⟨_, fun _ => rfl⟩
      have eX : max ((tt : Nat) : Int) 1 = (X : Int) := by rw [← HX.out ()]; omega
      have hX : (X : Int) ≤ 600 := by rw [← HX.out ()]; omega
      obtain ⟨Y, HY⟩ : ∃ Y : Nat, Hid (∀ _ : Unit, S * X = Y) := ⟨_, fun _ => rfl⟩
      have eY : (S : Int) * (X : Int) = (Y : Int) := by rw [← HY.out ()]; simp
      have hY : (Y : Int) ≤ 38400 := by
        have h1 : S * X ≤ 64 * 600 := Nat.mul_le_mul HSb.out (by omega)
        rw [← HY.out ()]; omega
      go_wp2_with fail
      go_ret3
      rw [← HO.out ()]
      refine ⟨.slice (some ⟨w.heap.size, 0, none⟩) lm lm, ?_, ?_, hf2⟩
      · rw [HT.out (), HX.out (), HY.out (), show ((max 200 (Y / 3) : Nat) : Int) = max 200 ((Y : Int) / 3) by omega]
        rfl
      · have := NewD.of_ib (B := w.heap.size) hI2 lm (by simp) (by unfold maxLen; have := HS.out; omega) (Nat.le_refl _)
        rw [List.take_of_length_le (by simp)] at this
        exact this
    · have hk1 : (0 : Int) < (k : Int) := by omega
      have HN : Hid (∀ _ : Unit, tt + 1 + blen (k / 2) = blen e - 1 ∧ k / 2 < k) := fun _ => by
        have h1 := (HK.out ()).2
        have h2 := blen_pos hk0
        rw [blen_half]
        omega
      clear hk0
      go_wp2_with fail
      refine ⟨⟨k / 2, tt + 1, by first | rfl | simp, by first | rfl | simp, fun _ => ⟨by omega, (HN.out ()).1⟩⟩, ?_⟩
      have := (HN.out ()).2
      simp [intOf]
      omega

set_option maxRecDepth 10000 in
set_option maxHeartbeats 600000 in
theorem wantN_abr (lb le lm b e m : Nat) (w : World) (h0 : lb ≤ 64) (h1 : le ≤ 64) (h2 : lm ≤ 64) (hb : b < 256) (he : e < 256) (hm : m < 256) (c1 : lb = 0) (c2 : 32 < le) (c3 : 0 < lm ∧ 0 < m) :
    Calls Sang.prog 39 #[.int .u8 (lb : Int), .int .u8 (le : Int), .int .u8 (lm : Int), .int .u8 (b : Int), .int .u8 (e : Int), .int .u8 (m : Int)] w fun e' w' =>
      ∃ v', e' = .returned (.tuple #[v', .int .u64 ((max 200 ((max lb lm + 7) / 8 * ((max lb lm + 7) / 8) * max (8 * (le - 32)) 1 / 3) : Nat) : Int), .bool true]) ∧ NewD w.heap.size w' v' (wantOut lm (powF 0 e m)) ∧ Fr w.heap.size no w w' := by
  obtain ⟨i5, hi5, hz5, hs5, hb5⟩ := info_parts info5
  have g0 : (lb : Int) ≤ 64 := by omega
  have g1 : (le : Int) ≤ 64 := by omega
  have g2 : (lm : Int) ≤ 64 := by omega
  have gb : (b : Int) ≤ 255 := by omega
  have ge : (e : Int) ≤ 255 := by omega
  have gm : (m : Int) ≤ 255 := by omega
  have d1 : ((lb : Int) == 0) = true := by simp; omega
  have d2 : ((le : Int) == 0) = false := by simp; omega
  have d3 : (32 : Int) < (le : Int) := by omega
  have d4 : (0 : Int) < (lm : Int) := by omega
  have d5 : (0 : Int) < (m : Int) := by omega
  have HS : Hid (lm ≤ 64 ∧ m < 256 ∧ e < 256 ∧ b < 256) := ⟨h2, hm, he, hb⟩
  obtain ⟨M1, HM1⟩ : ∃ M1 : Nat, Hid (∀ _ : Unit, max lb lm = M1) := ⟨_, fun _ => rfl⟩
  have eM1 : max (lb : Int) (lm : Int) = (M1 : Int) := by rw [← HM1.out ()]; omega
  have hM1 : (M1 : Int) ≤ 64 := by rw [← HM1.out ()]; omega
  obtain ⟨wd, HWv⟩ : ∃ wd : Nat, Hid (∀ _ : Unit, (M1 + 7) / 8 = wd) := ⟨_, fun _ => rfl⟩
  have eW : ((M1 : Int) + 7) / 8 = (wd : Int) := by rw [← HWv.out ()]; omega
  have hWd : (wd : Int) ≤ 8 := by rw [← HWv.out ()]; omega
  obtain ⟨S, HSv⟩ : ∃ S : Nat, Hid (∀ _ : Unit, wd * wd = S) := ⟨_, fun _ => rfl⟩
  have eS : (wd : Int) * (wd : Int) = (S : Int) := by rw [← HSv.out ()]; simp
  have HSb : Hid (S ≤ 64) := by
    have h1 : wd * wd ≤ 8 * 8 := Nat.mul_le_mul (by omega) (by omega)
    unfold Hid; rw [← HSv.out ()]; omega
  have hS : (S : Int) ≤ 64 := by have := HSb.out; omega
  rw [HM1.out (), HWv.out (), HSv.out ()]
  have hIB := IB.new w .u8 5 (List.replicate lm 0)
  have hfr : Fr w.heap.size no w (w.alloc (.cells (ints .u8 (List.replicate lm 0)) 5)) := (Fr.refl _ _ _).alloc (Nat.le_refl _) _
  clear h0 h1 h2 hb he hm
  have hlm : Hid (0 < lm ∧ 0 < m) := c3
  clear c1 c2 c3
  go_enter Sang.func39, Sang.ntmps39
  go_wp2_with ((with_reducible refine wl_make 27 5 (.tmp 34) (.tmp 34) .u8 .u8 .u8 lm ?_ ?_ i5 und33 hi5 hz5 hs5 ?_ ?_ ?_); rfl; rfl; (rw [hb5]; have := HS.out; omega); (unfold maxLen; have := HS.out; omega))
  generalize w.alloc (.cells (ints .u8 (List.replicate lm 0)) 5) = w1 at hIB hfr ⊢
  go_loop [16, 15] (fun kv rv => ∃ k r : Nat, k ≤ e ∧ kv = .int .u8 (k : Int) ∧ rv = .int .i64 (r : Int) ∧ Hid (∀ _ : Unit, r = powF 0 (e - k) m)) (fun k _ => (intOf k).toNat)
  case atStart =>
    refine ⟨e, 1 % m, Nat.le_refl _, rfl, ?_, fun _ => ?_⟩
    · first | rfl | (congr 1; omega)
    · rw [Nat.sub_self, powF_zero]; unfold remF; rw [if_neg (by have := hlm.out; omega)]
  case round =>
    obtain ⟨k, r, hk, rfl, rfl, HRv⟩ := hrel
    have HRl : Hid (r < m) := by unfold Hid; rw [HRv.out ()]; exact powF_lt _ _ (by have := hlm.out; omega)
    have hr : (r : Int) ≤ 255 := by have := HRl.out; have := HS.out; omega
    cases k with
    | succ k =>
      have HN : Hid (∀ _ : Unit, r * 0 % m = powF 0 (e - k) m) := fun _ => by
        rw [show e - k = (e - (k + 1)) + 1 by omega, ← powF_mul, ← HRv.out ()]
        unfold remF
        rw [if_neg (by have := hlm.out; omega)]
      have ek : ((k + 1 : Nat) : Int) - 1 = (k : Int) := by omega
      rw [Nat.mul_zero, Nat.zero_mod] at HN
      go_wp2_with fail
      exact ⟨⟨k, 0, by omega, by simp, by simp, HN⟩, by simp [intOf]⟩
    | zero =>
      obtain ⟨p, HP⟩ : ∃ p : Nat, Hid (∀ _ : Unit, lm = p + 1) := ⟨lm - 1, fun _ => by have := hlm.out; omega⟩
      have ep : (lm : Int) - 1 = (p : Int) := by rw [HP.out ()]; omega
      have hp : (p : Int) < (lm : Int) := by omega
      have hc := hIB.cell p (by simp; omega)
      have hz := hIB.unfrozen p
      generalize (List.replicate lm 0).getD p 0 = z0 at hc
      have HO : Hid (∀ _ : Unit, (List.replicate lm 0).set p r = wantOut lm (powF 0 e m)) := fun _ => by
        unfold wantOut
        rw [if_neg (by have := HP.out (); omega), HP.out (), List.replicate_succ', List.set_append_right _ _ (by simp), HRv.out ()]
        simp
      have hI2 := hIB.set p r
      have hf2 := hfr.setCell (p := ⟨w.heap.size, p, none⟩) (.inl (Nat.le_refl _)) (.int .u8 (r : Int))
      clear HRv HRl
      obtain ⟨tt, HT⟩ : ∃ tt : Nat, Hid (∀ _ : Unit, 8 * (le - 32) = tt) := ⟨_, fun _ => rfl⟩
      have eT : 8 * ((le : Int) - 32) = (tt : Int) := by rw [← HT.out ()]; omega
      have hT : (tt : Int) ≤ 256 := by omega
      obtain ⟨X, HX⟩ : ∃ X : Nat, Hid (∀ _ : Unit, max (tt) 1 = X) := ⟨_, fun _ => rfl⟩
      have eX : max ((tt : Nat) : Int) 1 = (X : Int) := by rw [← HX.out ()]; omega
      have hX : (X : Int) ≤ 600 := by rw [← HX.out ()]; omega
      obtain ⟨Y, HY⟩ : ∃ Y : Nat, Hid (∀ _ : Unit, S * X = Y) := ⟨_, fun _ => rfl⟩
      have eY : (S : Int) * (X : Int) = (Y : Int) := by rw [← HY.out ()]; simp
      have hY : (Y : Int) ≤ 38400 := by
        have h1 : S * X ≤ 64 * 600 := Nat.mul_le_mul HSb.out (by omega)
        rw [← HY.out ()]; omega
      go_wp2_with fail
      go_ret3
      rw [← HO.out ()]
      refine ⟨.slice (some ⟨w.heap.size, 0, none⟩) lm lm, ?_, ?_, hf2⟩
      · rw [HT.out (), HX.out (), HY.out (), show ((max 200 (Y / 3) : Nat) : Int) = max 200 ((Y : Int) / 3) by omega]
        rfl
      · have := NewD.of_ib (B := w.heap.size) hI2 lm (by simp) (by unfold maxLen; have := HS.out; omega) (Nat.le_refl _)
        rw [List.take_of_length_le (by simp)] at this
        exact this

set_option maxRecDepth 10000 in
set_option maxHeartbeats 600000 in
theorem wantN_abl (lb le lm b e m : Nat) (w : World) (h0 : lb ≤ 64) (h1 : le ≤ 64) (h2 : lm ≤ 64) (hb : b < 256) (he : e < 256) (hm : m < 256) (c1 : lb = 0) (c2 : 32 < le) (c3 : lm = 0) :
    Calls Sang.prog 39 #[.int .u8 (lb : Int), .int .u8 (le : Int), .int .u8 (lm : Int), .int .u8 (b : Int), .int .u8 (e : Int), .int .u8 (m : Int)] w fun e' w' =>
      ∃ v', e' = .returned (.tuple #[v', .int .u64 ((max 200 ((max lb lm + 7) / 8 * ((max lb lm + 7) / 8) * max (8 * (le - 32)) 1 / 3) : Nat) : Int), .bool true]) ∧ NewD w.heap.size w' v' (wantOut lm (powF 0 e m)) ∧ Fr w.heap.size no w w' := by
  obtain ⟨i5, hi5, hz5, hs5, hb5⟩ := info_parts info5
  have g0 : (lb : Int) ≤ 64 := by omega
  have g1 : (le : Int) ≤ 64 := by omega
  have g2 : (lm : Int) ≤ 64 := by omega
  have gb : (b : Int) ≤ 255 := by omega
  have ge : (e : Int) ≤ 255 := by omega
  have gm : (m : Int) ≤ 255 := by omega
  have d1 : ((lb : Int) == 0) = true := by simp; omega
  have d2 : ((le : Int) == 0) = false := by simp; omega
  have d3 : (32 : Int) < (le : Int) := by omega
  have d4 : ¬ (0 : Int) < (lm : Int) := by omega
  have HS : Hid (lm ≤ 64 ∧ m < 256 ∧ e < 256 ∧ b < 256) := ⟨h2, hm, he, hb⟩
  obtain ⟨M1, HM1⟩ : ∃ M1 : Nat, Hid (∀ _ : Unit, max lb lm = M1) := ⟨_, fun _ => rfl⟩
  have eM1 : max (lb : Int) (lm : Int) = (M1 : Int) := by rw [← HM1.out ()]; omega
  have hM1 : (M1 : Int) ≤ 64 := by rw [← HM1.out ()]; omega
  obtain ⟨wd, HWv⟩ : ∃ wd : Nat, Hid (∀ _ : Unit, (M1 + 7) / 8 = wd) := ⟨_, fun _ => rfl⟩
  have eW : ((M1 : Int) + 7) / 8 = (wd : Int) := by rw [← HWv.out ()]; omega
  have hWd : (wd : Int) ≤ 8 := by rw [← HWv.out ()]; omega
  obtain ⟨S, HSv⟩ : ∃ S : Nat, Hid (∀ _ : Unit, wd * wd = S) := ⟨_, fun _ => rfl⟩
  have eS : (wd : Int) * (wd : Int) = (S : Int) := by rw [← HSv.out ()]; simp
  have HSb : Hid (S ≤ 64) := by
    have h1 : wd * wd ≤ 8 * 8 := Nat.mul_le_mul (by omega) (by omega)
    unfold Hid; rw [← HSv.out ()]; omega
  have hS : (S : Int) ≤ 64 := by have := HSb.out; omega
  rw [HM1.out (), HWv.out (), HSv.out ()]
  have hIB := IB.new w .u8 5 (List.replicate lm 0)
  have hfr : Fr w.heap.size no w (w.alloc (.cells (ints .u8 (List.replicate lm 0)) 5)) := (Fr.refl _ _ _).alloc (Nat.le_refl _) _
  clear h0 h1 h2 hb he hm
  have HO : Hid (∀ _ : Unit, List.replicate lm 0 = wantOut lm (powF 0 e m)) := fun _ => by unfold wantOut; rw [if_pos c3, c3]; rfl
  clear c1 c2 c3
  have hI2 := hIB
  have hf2 := hfr
  go_enter Sang.func39, Sang.ntmps39
  obtain ⟨tt, HT⟩ : ∃ tt : Nat, Hid (∀ _ : Unit, 8 * (le - 32) = tt) := ⟨_, fun _ => rfl⟩
  have eT : 8 * ((le : Int) - 32) = (tt : Int) := by rw [← HT.out ()]; omega
  have hT : (tt : Int) ≤ 256 := by omega
  obtain ⟨X, HX⟩ : ∃ X : Nat, Hid (∀ _ : Unit, max (tt) 1 = X) := ⟨_, fun _ => rfl⟩
  have eX : max ((tt : Nat) : Int) 1 = (X : Int) := by rw [← HX.out ()]; omega
  have hX : (X : Int) ≤ 600 := by rw [← HX.out ()]; omega
  obtain ⟨Y, HY⟩ : ∃ Y : Nat, Hid (∀ _ : Unit, S * X = Y) := ⟨_, fun _ => rfl⟩
  have eY : (S : Int) * (X : Int) = (Y : Int) := by rw [← HY.out ()]; simp
  have hY : (Y : Int) ≤ 38400 := by
    have h1 : S * X ≤ 64 * 600 := Nat.mul_le_mul HSb.out (by omega)
    rw [← HY.out ()]; omega
  go_wp2_with ((with_reducible refine wl_make 27 5 (.tmp 34) (.tmp 34) .u8 .u8 .u8 lm ?_ ?_ i5 und33 hi5 hz5 hs5 ?_ ?_ ?_); rfl; rfl; (rw [hb5]; have := HS.out; omega); (unfold maxLen; have := HS.out; omega))
  go_ret3
  rw [← HO.out ()]
  refine ⟨.slice (some ⟨w.heap.size, 0, none⟩) lm lm, ?_, ?_, hf2⟩
  · rw [HT.out (), HX.out (), HY.out (), show ((max 200 (Y / 3) : Nat) : Int) = max 200 ((Y : Int) / 3) by omega]
    rfl
  · have := NewD.of_ib (B := w.heap.size) hI2 lm (by simp) (by unfold maxLen; have := HS.out; omega) (Nat.le_refl _)
    rw [List.take_of_length_le (by simp)] at this
    exact this

set_option maxRecDepth 10000 in
set_option maxHeartbeats 600000 in
theorem wantN_abm (lb le lm b e m : Nat) (w : World) (h0 : lb ≤ 64) (h1 : le ≤ 64) (h2 : lm ≤ 64) (hb : b < 256) (he : e < 256) (hm : m < 256) (c1 : lb = 0) (c2 : 32 < le) (c3 : 0 < lm ∧ m = 0) :
    Calls Sang.prog 39 #[.int .u8 (lb : Int), .int .u8 (le : Int), .int .u8 (lm : Int), .int .u8 (b : Int), .int .u8 (e : Int), .int .u8 (m : Int)] w fun e' w' =>
      ∃ v', e' = .returned (.tuple #[v', .int .u64 ((max 200 ((max lb lm + 7) / 8 * ((max lb lm + 7) / 8) * max (8 * (le - 32)) 1 / 3) : Nat) : Int), .bool true]) ∧ NewD w.heap.size w' v' (wantOut lm (powF 0 e m)) ∧ Fr w.heap.size no w w' := by
  obtain ⟨i5, hi5, hz5, hs5, hb5⟩ := info_parts info5
  have g0 : (lb : Int) ≤ 64 := by omega
  have g1 : (le : Int) ≤ 64 := by omega
  have g2 : (lm : Int) ≤ 64 := by omega
  have gb : (b : Int) ≤ 255 := by omega
  have ge : (e : Int) ≤ 255 := by omega
  have gm : (m : Int) ≤ 255 := by omega
  have d1 : ((lb : Int) == 0) = true := by simp; omega
  have d2 : ((le : Int) == 0) = false := by simp; omega
  have d3 : (32 : Int) < (le : Int) := by omega
  have d4 : (0 : Int) < (lm : Int) := by omega
  have d5 : ¬ (0 : Int) < (m : Int) := by omega
  have HS : Hid (lm ≤ 64 ∧ m < 256 ∧ e < 256 ∧ b < 256) := ⟨h2, hm, he, hb⟩
  obtain ⟨M1, HM1⟩ : ∃ M1 : Nat, Hid (∀ _ : Unit, max lb lm = M1) := ⟨_, fun _ => rfl⟩
  have eM1 : max (lb : Int) (lm : Int) = (M1 : Int) := by rw [← HM1.out ()]; omega
  have hM1 : (M1 : Int) ≤ 64 := by rw [← HM1.out ()]; omega
  obtain ⟨wd, HWv⟩ : ∃ wd : Nat, Hid (∀ _ : Unit, (M1 + 7) / 8 = wd) := ⟨_, fun _ => rfl⟩
  have eW : ((M1 : Int) + 7) / 8 = (wd : Int) := by rw [← HWv.out ()]; omega
  have hWd : (wd : Int) ≤ 8 := by rw [← HWv.out ()]; omega
  obtain ⟨S, HSv⟩ : ∃ S : Nat, Hid (∀ _ : Unit, wd * wd = S) := ⟨_, fun _ => rfl⟩
  have eS : (wd : Int) * (wd : Int) = (S : Int) := by rw [← HSv.out ()]; simp
  have HSb : Hid (S ≤ 64) := by
    have h1 : wd * wd ≤ 8 * 8 := Nat.mul_le_mul (by omega) (by omega)
    unfold Hid; rw [← HSv.out ()]; omega
  have hS : (S : Int) ≤ 64 := by have := HSb.out; omega
  rw [HM1.out (), HWv.out (), HSv.out ()]
  have hIB := IB.new w .u8 5 (List.replicate lm 0)
  have hfr : Fr w.heap.size no w (w.alloc (.cells (ints .u8 (List.replicate lm 0)) 5)) := (Fr.refl _ _ _).alloc (Nat.le_refl _) _
  clear h0 h1 h2 hb he hm
  have HO : Hid (∀ _ : Unit, List.replicate lm 0 = wantOut lm (powF 0 e m)) := fun _ => by
    unfold wantOut
    rw [if_neg (by omega), c3.2, powF_none, ← List.replicate_succ', show lm - 1 + 1 = lm by omega]
  clear c1 c2 c3
  have hI2 := hIB
  have hf2 := hfr
  go_enter Sang.func39, Sang.ntmps39
  obtain ⟨tt, HT⟩ : ∃ tt : Nat, Hid (∀ _ : Unit, 8 * (le - 32) = tt) := ⟨_, fun _ => rfl⟩
  have eT : 8 * ((le : Int) - 32) = (tt : Int) := by rw [← HT.out ()]; omega
  have hT : (tt : Int) ≤ 256 := by omega
  obtain ⟨X, HX⟩ : ∃ X : Nat, Hid (∀ _ : Unit, max (tt) 1 = X) := ⟨_, fun _ => rfl⟩
  have eX : max ((tt : Nat) : Int) 1 = (X : Int) := by rw [← HX.out ()]; omega
  have hX : (X : Int) ≤ 600 := by rw [← HX.out ()]; omega
  obtain ⟨Y, HY⟩ : ∃ Y : Nat, Hid (∀ _ : Unit, S * X = Y) := ⟨_, fun _ => rfl⟩
  have eY : (S : Int) * (X : Int) = (Y : Int) := by rw [← HY.out ()]; simp
  have hY : (Y : Int) ≤ 38400 := by
    have h1 : S * X ≤ 64 * 600 := Nat.mul_le_mul HSb.out (by omega)
    rw [← HY.out ()]; omega
  go_wp2_with ((with_reducible refine wl_make 27 5 (.tmp 34) (.tmp 34) .u8 .u8 .u8 lm ?_ ?_ i5 und33 hi5 hz5 hs5 ?_ ?_ ?_); rfl; rfl; (rw [hb5]; have := HS.out; omega); (unfold maxLen; have := HS.out; omega))
  go_ret3
  rw [← HO.out ()]
  refine ⟨.slice (some ⟨w.heap.size, 0, none⟩) lm lm, ?_, ?_, hf2⟩
  · rw [HT.out (), HX.out (), HY.out (), show ((max 200 (Y / 3) : Nat) : Int) = max 200 ((Y : Int) / 3) by omega]
    rfl
  · have := NewD.of_ib (B := w.heap.size) hI2 lm (by simp) (by unfold maxLen; have := HS.out; omega) (Nat.le_refl _)
    rw [List.take_of_length_le (by simp)] at this
    exact this

set_option maxRecDepth 10000 in
set_option maxHeartbeats 600000 in
theorem wantN_bzr (lb le lm b e m : Nat) (w : World) (h0 : lb ≤ 64) (h1 : le ≤ 64) (h2 : lm ≤ 64) (hb : b < 256) (he : e < 256) (hm : m < 256) (c1 : 0 < lb) (c2 : le = 0) (c3 : 0 < lm ∧ 0 < m) :
    Calls Sang.prog 39 #[.int .u8 (lb : Int), .int .u8 (le : Int), .int .u8 (lm : Int), .int .u8 (b : Int), .int .u8 (e : Int), .int .u8 (m : Int)] w fun e' w' =>
      ∃ v', e' = .returned (.tuple #[v', .int .u64 ((max 200 ((max lb lm + 7) / 8 * ((max lb lm + 7) / 8) * max (blen 0 - 1) 1 / 3) : Nat) : Int), .bool true]) ∧ NewD w.heap.size w' v' (wantOut lm (powF b 0 m)) ∧ Fr w.heap.size no w w' := by
  obtain ⟨i5, hi5, hz5, hs5, hb5⟩ := info_parts info5
  have g0 : (lb : Int) ≤ 64 := by omega
  have g1 : (le : Int) ≤ 64 := by omega
  have g2 : (lm : Int) ≤ 64 := by omega
  have gb : (b : Int) ≤ 255 := by omega
  have ge : (e : Int) ≤ 255 := by omega
  have gm : (m : Int) ≤ 255 := by omega
  have d1 : ((lb : Int) == 0) = false := by simp; omega
  have d2 : ((le : Int) == 0) = true := by simp; omega
  have d3 : ¬ (32 : Int) < (le : Int) := by omega
  have d4 : (0 : Int) < (lm : Int) := by omega
  have d5 : (0 : Int) < (m : Int) := by omega
  have HS : Hid (lm ≤ 64 ∧ m < 256 ∧ e < 256 ∧ b < 256) := ⟨h2, hm, he, hb⟩
  obtain ⟨M1, HM1⟩ : ∃ M1 : Nat, Hid (∀ _ : Unit, max lb lm = M1) := ⟨_, fun _ => rfl⟩
  have eM1 : max (lb : Int) (lm : Int) = (M1 : Int) := by rw [← HM1.out ()]; omega
  have hM1 : (M1 : Int) ≤ 64 := by rw [← HM1.out ()]; omega
  obtain ⟨wd, HWv⟩ : ∃ wd : Nat, Hid (∀ _ : Unit, (M1 + 7) / 8 = wd) := ⟨_, fun _ => rfl⟩
  have eW : ((M1 : Int) + 7) / 8 = (wd : Int) := by rw [← HWv.out ()]; omega
  have hWd : (wd : Int) ≤ 8 := by rw [← HWv.out ()]; omega
  obtain ⟨S, HSv⟩ : ∃ S : Nat, Hid (∀ _ : Unit, wd * wd = S) := ⟨_, fun _ => rfl⟩
  have eS : (wd : Int) * (wd : Int) = (S : Int) := by rw [← HSv.out ()]; simp
  have HSb : Hid (S ≤ 64) := by
    have h1 : wd * wd ≤ 8 * 8 := Nat.mul_le_mul (by omega) (by omega)
    unfold Hid; rw [← HSv.out ()]; omega
  have hS : (S : Int) ≤ 64 := by have := HSb.out; omega
  rw [HM1.out (), HWv.out (), HSv.out ()]
  have hIB := IB.new w .u8 5 (List.replicate lm 0)
  have hfr : Fr w.heap.size no w (w.alloc (.cells (ints .u8 (List.replicate lm 0)) 5)) := (Fr.refl _ _ _).alloc (Nat.le_refl _) _
  clear h0 h1 h2 hb he hm
  have hlm : Hid (0 < lm ∧ 0 < m) := c3
  clear c1 c2 c3
  go_enter Sang.func39, Sang.ntmps39
  go_wp2_with ((with_reducible refine wl_make 27 5 (.tmp 34) (.tmp 34) .u8 .u8 .u8 lm ?_ ?_ i5 und33 hi5 hz5 hs5 ?_ ?_ ?_); rfl; rfl; (rw [hb5]; have := HS.out; omega); (unfold maxLen; have := HS.out; omega))
  generalize w.alloc (.cells (ints .u8 (List.replicate lm 0)) 5) = w1 at hIB hfr ⊢
  go_loop [16, 15] (fun kv rv => ∃ k r : Nat, k ≤ 0 ∧ kv = .int .u8 (k : Int) ∧ rv = .int .i64 (r : Int) ∧ Hid (∀ _ : Unit, r = powF b (0 - k) m)) (fun k _ => (intOf k).toNat)
  case atStart =>
    refine ⟨0, 1 % m, Nat.le_refl _, rfl, ?_, fun _ => ?_⟩
    · first | rfl | (congr 1; omega)
    · rw [Nat.sub_self, powF_zero]; unfold remF; rw [if_neg (by have := hlm.out; omega)]
  case round =>
    obtain ⟨k, r, hk, rfl, rfl, HRv⟩ := hrel
    have HRl : Hid (r < m) := by unfold Hid; rw [HRv.out ()]; exact powF_lt _ _ (by have := hlm.out; omega)
    have hr : (r : Int) ≤ 255 := by have := HRl.out; have := HS.out; omega
    cases k with
    | succ k =>
      exact absurd hk (by omega)
    | zero =>
      obtain ⟨p, HP⟩ : ∃ p : Nat, Hid (∀ _ : Unit, lm = p + 1) := ⟨lm - 1, fun _ => by have := hlm.out; omega⟩
      have ep : (lm : Int) - 1 = (p : Int) := by rw [HP.out ()]; omega
      have hp : (p : Int) < (lm : Int) := by omega
      have hc := hIB.cell p (by simp; omega)
      have hz := hIB.unfrozen p
      generalize (List.replicate lm 0).getD p 0 = z0 at hc
      have HO : Hid (∀ _ : Unit, (List.replicate lm 0).set p r = wantOut lm (powF b 0 m)) := fun _ => by
        unfold wantOut
        rw [if_neg (by have := HP.out (); omega), HP.out (), List.replicate_succ', List.set_append_right _ _ (by simp), HRv.out ()]
        simp
      have hI2 := hIB.set p r
      have hf2 := hfr.setCell (p := ⟨w.heap.size, p, none⟩) (.inl (Nat.le_refl _)) (.int .u8 (r : Int))
      clear HRv HRl
      go_wp2_with fail
      go_loop [19, 18] (fun kv tv => ∃ k tt : Nat, kv = .int .u8 (k : Int) ∧ tv = .int .u64 (tt : Int) ∧ Hid (∀ _ : Unit, k < 256 ∧ tt + blen k = blen 0 - 1)) (fun k _ => (intOf k).toNat)
      case atStart =>
        exact ⟨0, 0, rfl, rfl, fun _ => ⟨by omega, rfl⟩⟩
      case round =>
        obtain ⟨k, tt, rfl, rfl, HK⟩ := hrel
        have hkt : (tt : Int) ≤ 8 := by
          have h1 := (HK.out ()).2
          have h2 : blen 0 ≤ 8 := Nat.zero_le _
          omega
        have hk2 : (k : Int) < 256 := by have := (HK.out ()).1; omega
        by_cases hk0 : k = 0
        · subst hk0
          have HT : Hid (∀ _ : Unit, blen 0 - 1 = tt) := fun _ => by have := (HK.out ()).2; rw [show blen 0 = 0 from rfl] at this ⊢; omega
          clear HK
          obtain ⟨X, HX⟩ : ∃ X : Nat, Hid (∀ _ : Unit, max (tt) 1 = X) := ⟨_, fun _ => rfl⟩
          have eX : max ((tt : Nat) : Int) 1 = (X : Int) := by rw [← HX.out ()]; omega
          have hX : (X : Int) ≤ 600 := by rw [← HX.out ()]; omega
          obtain ⟨Y, HY⟩ : ∃ Y : Nat, Hid (∀ _ : Unit, S * X = Y) := ⟨_, fun _ => rfl⟩
          have eY : (S : Int) * (X : Int) = (Y : Int) := by rw [← HY.out ()]; simp
          have hY : (Y : Int) ≤ 38400 := by
            have h1 : S * X ≤ 64 * 600 := Nat.mul_le_mul HSb.out (by omega)
            rw [← HY.out ()]; omega
          go_wp2_with fail
          go_ret3
          rw [← HO.out ()]
          refine ⟨.slice (some ⟨w.heap.size, 0, none⟩) lm lm, ?_, ?_, hf2⟩
          · rw [HT.out (), HX.out (), HY.out (), show ((max 200 (Y / 3) : Nat) : Int) = max 200 ((Y : Int) / 3) by omega]
            rfl
          · have := NewD.of_ib (B := w.heap.size) hI2 lm (by simp) (by unfold maxLen; have := HS.out; omega) (Nat.le_refl _)
            rw [List.take_of_length_le (by simp)] at this
            exact this
        · have hk1 : (0 : Int) < (k : Int) := by omega
          have HN : Hid (∀ _ : Unit, tt + 1 + blen (k / 2) = blen 0 - 1 ∧ k / 2 < k) := fun _ => by
            have h1 := (HK.out ()).2
            have h2 := blen_pos hk0
            rw [blen_half]
            omega
          clear hk0
          go_wp2_with fail
          refine ⟨⟨k / 2, tt + 1, by first | rfl | simp, by first | rfl | simp, fun _ => ⟨by omega, (HN.out ()).1⟩⟩, ?_⟩
          have := (HN.out ()).2
          simp [intOf]
          omega

set_option maxRecDepth 10000 in
set_option maxHeartbeats 600000 in
theorem wantN_bzl (lb le lm b e m : Nat) (w : World) (h0 : lb ≤ 64) (h1 : le ≤ 64) (h2 : lm ≤ 64) (hb : b < 256) (he : e < 256) (hm : m < 256) (c1 : 0 < lb) (c2 : le = 0) (c3 : lm = 0) :
    Calls Sang.prog 39 #[.int .u8 (lb : Int), .int .u8 (le : Int), .int .u8 (lm : Int), .int .u8 (b : Int), .int .u8 (e : Int), .int .u8 (m : Int)] w fun e' w' =>
      ∃ v', e' = .returned (.tuple #[v', .int .u64 ((max 200 ((max lb lm + 7) / 8 * ((max lb lm + 7) / 8) * max (blen 0 - 1) 1 / 3) : Nat) : Int), .bool true]) ∧ NewD w.heap.size w' v' (wantOut lm (powF b 0 m)) ∧ Fr w.heap.size no w w' := by
  obtain ⟨i5, hi5, hz5, hs5, hb5⟩ := info_parts info5
  have g0 : (lb : Int) ≤ 64 := by omega
  have g1 : (le : Int) ≤ 64 := by omega
  have g2 : (lm : Int) ≤ 64 := by omega
  have gb : (b : Int) ≤ 255 := by omega
  have ge : (e : Int) ≤ 255 := by omega
  have gm : (m : Int) ≤ 255 := by omega
  have d1 : ((lb : Int) == 0) = false := by simp; omega
  have d2 : ((le : Int) == 0) = true := by simp; omega
  have d3 : ¬ (32 : Int) < (le : Int) := by omega
  have d4 : ¬ (0 : Int) < (lm : Int) := by omega
  have HS : Hid (lm ≤ 64 ∧ m < 256 ∧ e < 256 ∧ b < 256) := ⟨h2, hm, he, hb⟩
  obtain ⟨M1, HM1⟩ : ∃ M1 : Nat, Hid (∀ _ : Unit, max lb lm = M1) := ⟨_, fun _ => rfl⟩
  have eM1 : max (lb : Int) (lm : Int) = (M1 : Int) := by rw [← HM1.out ()]; omega
  have hM1 : (M1 : Int) ≤ 64 := by rw [← HM1.out ()]; omega
  obtain ⟨wd, HWv⟩ : ∃ wd : Nat, Hid (∀ _ : Unit, (M1 + 7) / 8 = wd) := ⟨_, fun _ => rfl⟩
  have eW : ((M1 : Int) + 7) / 8 = (wd : Int) := by rw [← HWv.out ()]; omega
  have hWd : (wd : Int) ≤ 8 := by rw [← HWv.out ()]; omega
  obtain ⟨S, HSv⟩ : ∃ S : Nat, Hid (∀ _ : Unit, wd * wd = S) := ⟨_, fun _ => rfl⟩
  have eS : (wd : Int) * (wd : Int) = (S : Int) := by rw [← HSv.out ()]; simp
  have HSb : Hid (S ≤ 64) := by
    have h1 : wd * wd ≤ 8 * 8 := Nat.mul_le_mul (by omega) (by omega)
    unfold Hid; rw [← HSv.out ()]; omega
  have hS : (S : Int) ≤ 64 := by have := HSb.out; omega
  rw [HM1.out (), HWv.out (), HSv.out ()]
  have hIB := IB.new w .u8 5 (List.replicate lm 0)
  have hfr : Fr w.heap.size no w (w.alloc (.cells (ints .u8 (List.replicate lm 0)) 5)) := (Fr.refl _ _ _).alloc (Nat.le_refl _) _
  clear h0 h1 h2 hb he hm
  have HO : Hid (∀ _ : Unit, List.replicate lm 0 = wantOut lm (powF b 0 m)) := fun _ => by unfold wantOut; rw [if_pos c3, c3]; rfl
  clear c1 c2 c3
  have hI2 := hIB
  have hf2 := hfr
  go_enter Sang.func39, Sang.ntmps39
  go_wp2_with ((with_reducible refine wl_make 27 5 (.tmp 34) (.tmp 34) .u8 .u8 .u8 lm ?_ ?_ i5 und33 hi5 hz5 hs5 ?_ ?_ ?_); rfl; rfl; (rw [hb5]; have := HS.out; omega); (unfold maxLen; have := HS.out; omega))
  generalize w.alloc (.cells (ints .u8 (List.replicate lm 0)) 5) = w1 at hI2 hf2 ⊢
  go_loop [19, 18] (fun kv tv => ∃ k tt : Nat, kv = .int .u8 (k : Int) ∧ tv = .int .u64 (tt : Int) ∧ Hid (∀ _ : Unit, k < 256 ∧ tt + blen k = blen 0 - 1)) (fun k _ => (intOf k).toNat)
  case atStart =>
    exact ⟨0, 0, rfl, rfl, fun _ => ⟨by omega, rfl⟩⟩
  case round =>
    obtain ⟨k, tt, rfl, rfl, HK⟩ := hrel
    have hkt : (tt : Int) ≤ 8 := by
      have h1 := (HK.out ()).2
      have h2 : blen 0 ≤ 8 := Nat.zero_le _
      omega
    have hk2 : (k : Int) < 256 := by have := (HK.out ()).1; omega
    by_cases hk0 : k = 0
    · subst hk0
      have HT : Hid (∀ _ : Unit, blen 0 - 1 = tt) := fun _ => by have := (HK.out ()).2; rw [show blen 0 = 0 from rfl] at this ⊢; omega
      clear HK
      obtain ⟨X, HX⟩ : ∃ X : Nat, Hid (∀ _ : Unit, max (tt) 1 = X) := ⟨_, fun _ => rfl⟩
      have eX : max ((tt : Nat) : Int) 1 = (X : Int) := by rw [← HX.out ()]; omega
      have hX : (X : Int) ≤ 600 := by rw [← HX.out ()]; omega
      obtain ⟨Y, HY⟩ : ∃ Y : Nat, Hid (∀ _ : Unit, S * X = Y) := ⟨_, fun _ => rfl⟩
      have eY : (S : Int) * (X : Int) = (Y : Int) := by rw [← HY.out ()]; simp
      have hY : (Y : Int) ≤ 38400 := by
        have h1 : S * X ≤ 64 * 600 := Nat.mul_le_mul HSb.out (by omega)
        rw [← HY.out ()]; omega
      go_wp2_with fail
      go_ret3
      rw [← HO.out ()]
      refine ⟨.slice (some ⟨w.heap.size, 0, none⟩) lm lm, ?_, ?_, hf2⟩
      · rw [HT.out (), HX.out (), HY.out (), show ((max 200 (Y / 3) : Nat) : Int) = max 200 ((Y : Int) / 3) by omega]
        rfl
      · have := NewD.of_ib (B := w.heap.size) hI2 lm (by simp) (by unfold maxLen; have := HS.out; omega) (Nat.le_refl _)
        rw [List.take_of_length_le (by simp)] at this
        exact this
    · have hk1 : (0 : Int) < (k : Int) := by omega
      have HN : Hid (∀ _ : Unit, tt + 1 + blen (k / 2) = blen 0 - 1 ∧ k / 2 < k) := fun _ => by
        have h1 := (HK.out ()).2
        have h2 := blen_pos hk0
        rw [blen_half]
        omega
      clear hk0
      go_wp2_with fail
      refine ⟨⟨k / 2, tt + 1, by first | rfl | simp, by first | rfl | simp, fun _ => ⟨by omega, (HN.out ()).1⟩⟩, ?_⟩
      have := (HN.out ()).2
      simp [intOf]
      omega

set_option maxRecDepth 10000 in
set_option maxHeartbeats 600000 in
theorem wantN_bzm (lb le lm b e m : Nat) (w : World) (h0 : lb ≤ 64) (h1 : le ≤ 64) (h2 : lm ≤ 64) (hb : b < 256) (he : e < 256) (hm : m < 256) (c1 : 0 < lb) (c2 : le = 0) (c3 : 0 < lm ∧ m = 0) :
    Calls Sang.prog 39 #[.int .u8 (lb : Int), .int .u8 (le : Int), .int .u8 (lm : Int), .int .u8 (b : Int), .int .u8 (e : Int), .int .u8 (m : Int)] w fun e' w' =>
      ∃ v', e' = .returned (.tuple #[v', .int .u64 ((max 200 ((max lb lm + 7) / 8 * ((max lb lm + 7) / 8) * max (blen 0 - 1) 1 / 3) : Nat) : Int), .bool true]) ∧ NewD w.heap.size w' v' (wantOut lm (powF b 0 m)) ∧ Fr w.heap.size no w w' := by
  obtain ⟨i5, hi5, hz5, hs5, hb5⟩ := info_parts info5
  have g0 : (lb : Int) ≤ 64 := by omega
  have g1 : (le : Int) ≤ 64 := by omega
  have g2 : (lm : Int) ≤ 64 := by omega
  have gb : (b : Int) ≤ 255 := by omega
  have ge : (e : Int) ≤ 255 := by omega
  have gm : (m : Int) ≤ 255 := by omega
  have d1 : ((lb : Int) == 0) = false := by simp; omega
  have d2 : ((le : Int) == 0) = true := by simp; omega
  have d3 : ¬ (32 : Int) < (le : Int) := by omega
  have d4 : (0 : Int) < (lm : Int) := by omega
  have d5 : ¬ (0 : Int) < (m : Int) := by omega
  have HS : Hid (lm ≤ 64 ∧ m < 256 ∧ e < 256 ∧ b < 256) := ⟨h2, hm, he, hb⟩
  obtain ⟨M1, HM1⟩ : ∃ M1 : Nat, Hid (∀ _ : Unit, max lb lm = M1) := ⟨_, fun _ => rfl⟩
  have eM1 : max (lb : Int) (lm : Int) = (M1 : Int) := by rw [← HM1.out ()]; omega
  have hM1 : (M1 : Int) ≤ 64 := by rw [← HM1.out ()]; omega
  obtain ⟨wd, HWv⟩ : ∃ wd : Nat, Hid (∀ _ : Unit, (M1 + 7) / 8 = wd) := ⟨_, fun _ => rfl⟩
  have eW : ((M1 : Int) + 7) / 8 = (wd : Int) := by rw [← HWv.out ()]; omega
  have hWd : (wd : Int) ≤ 8 := by rw [← HWv.out ()]; omega
  obtain ⟨S, HSv⟩ : ∃ S : Nat, Hid (∀ _ : Unit, wd * wd = S) := ⟨_, fun _ => rfl⟩
  have eS : (wd : Int) * (wd : Int) = (S : Int) := by rw [← HSv.out ()]; simp
  have HSb : Hid (S ≤ 64) := by
    have h1 : wd * wd ≤ 8 * 8 := Nat.mul_le_mul (by omega) (by omega)
    unfold Hid; rw [← HSv.out ()]; omega
  have hS : (S : Int) ≤ 64 := by have := HSb.out; omega
  rw [HM1.out (), HWv.out (), HSv.out ()]
  have hIB := IB.new w .u8 5 (List.replicate lm 0)
  have hfr : Fr w.heap.size no w (w.alloc (.cells (ints .u8 (List.replicate lm 0)) 5)) := (Fr.refl _ _ _).alloc (Nat.le_refl _) _
  clear h0 h1 h2 hb he hm
  have HO : Hid (∀ _ : Unit, List.replicate lm 0 = wantOut lm (powF b 0 m)) := fun _ => by
    unfold wantOut
    rw [if_neg (by omega), c3.2, powF_none, ← List.replicate_succ', show lm - 1 + 1 = lm by omega]
  clear c1 c2 c3
  have hI2 := hIB
  have hf2 := hfr
  go_enter Sang.func39, Sang.ntmps39
  go_wp2_with ((with_reducible refine wl_make 27 5 (.tmp 34) (.tmp 34) .u8 .u8 .u8 lm ?_ ?_ i5 und33 hi5 hz5 hs5 ?_ ?_ ?_); rfl; rfl; (rw [hb5]; have := HS.out; omega); (unfold maxLen; have := HS.out; omega))
  generalize w.alloc (.cells (ints .u8 (List.replicate lm 0)) 5) = w1 at hI2 hf2 ⊢
  go_loop [19, 18] (fun kv tv => ∃ k tt : Nat, kv = .int .u8 (k : Int) ∧ tv = .int .u64 (tt : Int) ∧ Hid (∀ _ : Unit, k < 256 ∧ tt + blen k = blen 0 - 1)) (fun k _ => (intOf k).toNat)
  case atStart =>
    exact ⟨0, 0, rfl, rfl, fun _ => ⟨by omega, rfl⟩⟩
  case round =>
    obtain ⟨k, tt, rfl, rfl, HK⟩ := hrel
    have hkt : (tt : Int) ≤ 8 := by
      have h1 := (HK.out ()).2
      have h2 : blen 0 ≤ 8 := Nat.zero_le _
      omega
    have hk2 : (k : Int) < 256 := by have := (HK.out ()).1; omega
    by_cases hk0 : k = 0
    · subst hk0
      have HT : Hid (∀ _ : Unit, blen 0 - 1 = tt) := fun _ => by have := (HK.out ()).2; rw [show blen 0 = 0 from rfl] at this ⊢; omega
      clear HK
      obtain ⟨X, HX⟩ : ∃ X : Nat, Hid (∀ _ : Unit, max (tt) 1 = X) := ⟨_, fun _ => rfl⟩
      have eX : max ((tt : Nat) : Int) 1 = (X : Int) := by rw [← HX.out ()]; omega
      have hX : (X : Int) ≤ 600 := by rw [← HX.out ()]; omega
      obtain ⟨Y, HY⟩ : ∃ Y : Nat, Hid (∀ _ : Unit, S * X = Y) := ⟨_, fun _ => rfl⟩
      have eY : (S : Int) * (X : Int) = (Y : Int) := by rw [← HY.out ()]; simp
      have hY : (Y : Int) ≤ 38400 := by
        have h1 : S * X ≤ 64 * 600 := Nat.mul_le_mul HSb.out (by omega)
        rw [← HY.out ()]; omega
      go_wp2_with fail
      go_ret3
      rw [← HO.out ()]
      refine ⟨.slice (some ⟨w.heap.size, 0, none⟩) lm lm, ?_, ?_, hf2⟩
      · rw [HT.out (), HX.out (), HY.out (), show ((max 200 (Y / 3) : Nat) : Int) = max 200 ((Y : Int) / 3) by omega]
        rfl
      · have := NewD.of_ib (B := w.heap.size) hI2 lm (by simp) (by unfold maxLen; have := HS.out; omega) (Nat.le_refl _)
        rw [List.take_of_length_le (by simp)] at this
        exact this
    · have hk1 : (0 : Int) < (k : Int) := by omega
      have HN : Hid (∀ _ : Unit, tt + 1 + blen (k / 2) = blen 0 - 1 ∧ k / 2 < k) := fun _ => by
        have h1 := (HK.out ()).2
        have h2 := blen_pos hk0
        rw [blen_half]
        omega
      clear hk0
      go_wp2_with fail
      refine ⟨⟨k / 2, tt + 1, by first | rfl | simp, by first | rfl | simp, fun _ => ⟨by omega, (HN.out ()).1⟩⟩, ?_⟩
      have := (HN.out ()).2
      simp [intOf]
      omega

set_option maxRecDepth 10000 in
set_option maxHeartbeats 600000 in
theorem wantN_bsr (lb le lm b e m : Nat) (w : World) (h0 : lb ≤ 64) (h1 : le ≤ 64) (h2 : lm ≤ 64) (hb : b < 256) (he : e < 256) (hm : m < 256) (c1 : 0 < lb) (c2 : 0 < le ∧ le ≤ 32) (c3 : 0 < lm ∧ 0 < m) :
    Calls Sang.prog 39 #[.int .u8 (lb : Int), .int .u8 (le : Int), .int .u8 (lm : Int), .int .u8 (b : Int), .int .u8 (e : Int), .int .u8 (m : Int)] w fun e' w' =>
      ∃ v', e' = .returned (.tuple #[v', .int .u64 ((max 200 ((max lb lm + 7) / 8 * ((max lb lm + 7) / 8) * max (blen e - 1) 1 / 3) : Nat) : Int), .bool true]) ∧ NewD w.heap.size w' v' (wantOut lm (powF b e m)) ∧ Fr w.heap.size no w w' := by
  obtain ⟨i5, hi5, hz5, hs5, hb5⟩ := info_parts info5
  have g0 : (lb : Int) ≤ 64 := by omega
  have g1 : (le : Int) ≤ 64 := by omega
  have g2 : (lm : Int) ≤ 64 := by omega
  have gb : (b : Int) ≤ 255 := by omega
  have ge : (e : Int) ≤ 255 := by omega
  have gm : (m : Int) ≤ 255 := by omega
  have d1 : ((lb : Int) == 0) = false := by simp; omega
  have d2 : ((le : Int) == 0) = false := by simp; omega
  have d3 : ¬ (32 : Int) < (le : Int) := by omega
  have d4 : (0 : Int) < (lm : Int) := by omega
  have d5 : (0 : Int) < (m : Int) := by omega
  have HS : Hid (lm ≤ 64 ∧ m < 256 ∧ e < 256 ∧ b < 256) := ⟨h2, hm, he, hb⟩
  obtain ⟨M1, HM1⟩ : ∃ M1 : Nat, Hid (∀ _ : Unit, max lb lm = M1) := ⟨_, fun _ => rfl⟩
  have eM1 : max (lb : Int) (lm : Int) = (M1 : Int) := by rw [← HM1.out ()]; omega
  have hM1 : (M1 : Int) ≤ 64 := by rw [← HM1.out ()]; omega
  obtain ⟨wd, HWv⟩ : ∃ wd : Nat, Hid (∀ _ : Unit, (M1 + 7) / 8 = wd) := ⟨_, fun _ => rfl⟩
  have eW : ((M1 : Int) + 7) / 8 = (wd : Int) := by rw [← HWv.out ()]; omega
  have hWd : (wd : Int) ≤ 8 := by rw [← HWv.out ()]; omega
  obtain ⟨S, HSv⟩ : ∃ S : Nat, Hid (∀ _ : Unit, wd * wd = S) := ⟨_, fun _ => rfl⟩
  have eS : (wd : Int) * (wd : Int) = (S : Int) := by rw [← HSv.out ()]; simp
  have HSb : Hid (S ≤ 64) := by
    have h1 : wd * wd ≤ 8 * 8 := Nat.mul_le_mul (by omega) (by omega)
    unfold Hid; rw [← HSv.out ()]; omega
  have hS : (S : Int) ≤ 64 := by have := HSb.out; omega
  rw [HM1.out (), HWv.out (), HSv.out ()]
  have hIB := IB.new w .u8 5 (List.replicate lm 0)
  have hfr : Fr w.heap.size no w (w.alloc (.cells (ints .u8 (List.replicate lm 0)) 5)) := (Fr.refl _ _ _).alloc (Nat.le_refl _) _
  clear h0 h1 h2 hb he hm
  have hlm : Hid (0 < lm ∧ 0 < m) := c3
  clear c1 c2 c3
  go_enter Sang.func39, Sang.ntmps39
  go_wp2_with ((with_reducible refine wl_make 27 5 (.tmp 34) (.tmp 34) .u8 .u8 .u8 lm ?_ ?_ i5 und33 hi5 hz5 hs5 ?_ ?_ ?_); rfl; rfl; (rw [hb5]; have := HS.out; omega); (unfold maxLen; have := HS.out; omega))
  generalize w.alloc (.cells (ints .u8 (List.replicate lm 0)) 5) = w1 at hIB hfr ⊢
  go_loop [16, 15] (fun kv rv => ∃ k r : Nat, k ≤ e ∧ kv = .int .u8 (k : Int) ∧ rv = .int .i64 (r : Int) ∧ Hid (∀ _ : Unit, r = powF b (e - k) m)) (fun k _ => (intOf k).toNat)
  case atStart =>
    refine ⟨e, 1 % m, Nat.le_refl _, rfl, ?_, fun _ => ?_⟩
    · first | rfl | (congr 1; omega)
    · rw [Nat.sub_self, powF_zero]; unfold remF; rw [if_neg (by have := hlm.out; omega)]
  case round =>
    obtain ⟨k, r, hk, rfl, rfl, HRv⟩ := hrel
    have HRl : Hid (r < m) := by unfold Hid; rw [HRv.out ()]; exact powF_lt _ _ (by have := hlm.out; omega)
    have hr : (r : Int) ≤ 255 := by have := HRl.out; have := HS.out; omega
    cases k with
    | succ k =>
      have HN : Hid (∀ _ : Unit, r * b % m = powF b (e - k) m) := fun _ => by
        rw [show e - k = (e - (k + 1)) + 1 by omega, ← powF_mul, ← HRv.out ()]
        unfold remF
        rw [if_neg (by have := hlm.out; omega)]
      have ek : ((k + 1 : Nat) : Int) - 1 = (k : Int) := by omega
      obtain ⟨q, HQ⟩ : ∃ q : Nat, Hid (∀ _ : Unit, r * b = q) := ⟨_, fun _ => rfl⟩
      have eq1 : (r : Int) * (b : Int) = (q : Int) := by rw [← HQ.out ()]; simp
      have hq : (q : Int) ≤ 65025 := by
        have h1 : r * b ≤ 255 * 255 := Nat.mul_le_mul (by omega) (by omega)
        rw [← HQ.out ()]; omega
      rw [HQ.out ()] at HN
      have eqm : (q : Int) % (m : Int) = ((q % m : Nat) : Int) := by omega
      obtain ⟨r2, HR2⟩ : ∃ r2 : Nat, Hid (∀ _ : Unit, q % m = r2) := ⟨_, fun _ => rfl⟩
      rw [HR2.out ()] at HN eqm
      go_wp2_with fail
      exact ⟨⟨k, r2, by omega, by simp, by first | rfl | exact congrArg (Value.int .i64) eqm, HN⟩, by simp [intOf]⟩
    | zero =>
      obtain ⟨p, HP⟩ : ∃ p : Nat, Hid (∀ _ : Unit, lm = p + 1) := ⟨lm - 1, fun _ => by have := hlm.out; omega⟩
      have ep : (lm : Int) - 1 = (p : Int) := by rw [HP.out ()]; omega
      have hp : (p : Int) < (lm : Int) := by omega
      have hc := hIB.cell p (by simp; omega)
      have hz := hIB.unfrozen p
      generalize (List.replicate lm 0).getD p 0 = z0 at hc
      have HO : Hid (∀ _ : Unit, (List.replicate lm 0).set p r = wantOut lm (powF b e m)) := fun _ => by
        unfold wantOut
        rw [if_neg (by have := HP.out (); omega), HP.out (), List.replicate_succ', List.set_append_right _ _ (by simp), HRv.out ()]
        simp
      have hI2 := hIB.set p r
      have hf2 := hfr.setCell (p := ⟨w.heap.size, p, none⟩) (.inl (Nat.le_refl _)) (.int .u8 (r : Int))
      clear HRv HRl
      go_wp2_with fail
      go_loop [19, 18] (fun kv tv => ∃ k tt : Nat, kv = .int .u8 (k : Int) ∧ tv = .int .u64 (tt : Int) ∧ Hid (∀ _ : Unit, k < 256 ∧ tt + blen k = blen e - 1)) (fun k _ => (intOf k).toNat)
      case atStart =>
        refine ⟨e / 2, 0, by first | rfl | simp, rfl, fun _ => ⟨by have := HS.out; omega, ?_⟩⟩
        rw [blen_half]; omega
      case round =>
        obtain ⟨k, tt, rfl, rfl, HK⟩ := hrel
        have hkt : (tt : Int) ≤ 8 := by
          have h1 := (HK.out ()).2
          have h2 : blen e ≤ 8 := blen_small HS.out.2.2.1
          omega
        have hk2 : (k : Int) < 256 := by have := (HK.out ()).1; omega
        by_cases hk0 : k = 0
        · subst hk0
          have HT : Hid (∀ _ : Unit, blen e - 1 = tt) := fun _ => by have := (HK.out ()).2; rw [show blen 0 = 0 from rfl] at this; omega
          clear HK
          obtain ⟨X, HX⟩ : ∃ X : Nat, Hid (∀ _ : Unit, max (tt) 1 = X) := ⟨_, fun _ => rfl⟩
          have eX : max ((tt : Nat) : Int) 1 = (X : Int) := by rw [← HX.out ()]; omega
          have hX : (X : Int) ≤ 600 := by rw [← HX.out ()]; omega
          obtain ⟨Y, HY⟩ : ∃ Y : Nat, Hid (∀ _ : Unit, S * X = Y) := ⟨_, fun _ => rfl⟩
          have eY : (S : Int) * (X : Int) = (Y : Int) := by rw [← HY.out ()]; simp
          have hY : (Y : Int) ≤ 38400 := by
            have h1 : S * X ≤ 64 * 600 := Nat.mul_le_mul HSb.out (by omega)
            rw [← HY.out ()]; omega
          go_wp2_with fail
          go_ret3
          rw [← HO.out ()]
          refine ⟨.slice (some ⟨w.heap.size, 0, none⟩) lm lm, ?_, ?_, hf2⟩
          · rw [HT.out (), HX.out (), HY.out (), show ((max 200 (Y / 3) : Nat) : Int) = max 200 ((Y : Int) / 3) by omega]
            rfl
          · have := NewD.of_ib (B := w.heap.size) hI2 lm (by simp) (by unfold maxLen; have := HS.out; omega) (Nat.le_refl _)
            rw [List.take_of_length_le (by simp)] at this
            exact this
        · have hk1 : (0 : Int) < (k : Int) := by omega
          have HN : Hid (∀ _ : Unit, tt + 1 + blen (k / 2) = blen e - 1 ∧ k / 2 < k) := fun _ => by
            have h1 := (HK.out ()).2
            have h2 := blen_pos hk0
            rw [blen_half]
            omega
          clear hk0
          go_wp2_with fail
          refine ⟨⟨k / 2, tt + 1, by first | rfl | simp, by first | rfl | simp, fun _ => ⟨by omega, (HN.out ()).1⟩⟩, ?_⟩
          have := (HN.out ()).2
          simp [intOf]
          omega

set_option maxRecDepth 10000 in
set_option maxHeartbeats 600000 in
theorem wantN_bsl (lb le lm b e m : Nat) (w : World) (h0 : lb ≤ 64) (h1 : le ≤ 64) (h2 : lm ≤ 64) (hb : b < 256) (he : e < 256) (hm : m < 256) (c1 : 0 < lb) (c2 : 0 < le ∧ le ≤ 32) (c3 : lm = 0) :
    Calls Sang.prog 39 #[.int .u8 (lb : Int), .int .u8 (le : Int), .int .u8 (lm : Int), .int .u8 (b : Int), .int .u8 (e : Int), .int .u8 (m : Int)] w fun e' w' =>
      ∃ v', e' = .returned (.tuple #[v', .int .u64 ((max 200 ((max lb lm + 7) / 8 * ((max lb lm + 7) / 8) * max (blen e - 1) 1 / 3) : Nat) : Int), .bool true]) ∧ NewD w.heap.size w' v' (wantOut lm (powF b e m)) ∧ Fr w.heap.size no w w' := by
  obtain ⟨i5, hi5, hz5, hs5, hb5⟩ := info_parts info5
  have g0 : (lb : Int) ≤ 64 := by omega
  have g1 : (le : Int) ≤ 64 := by omega
  have g2 : (lm : Int) ≤ 64 := by omega
  have gb : (b : Int) ≤ 255 := by omega
  have ge : (e : Int) ≤ 255 := by omega
  have gm : (m : Int) ≤ 255 := by omega
  have d1 : ((lb : Int) == 0) = false := by simp; omega
  have d2 : ((le : Int) == 0) = false := by simp; omega
  have d3 : ¬ (32 : Int) < (le : Int) := by omega
  have d4 : ¬ (0 : Int) < (lm : Int) := by omega
  have HS : Hid (lm ≤ 64 ∧ m < 256 ∧ e < 256 ∧ b < 256) := ⟨h2, hm, he, hb⟩
  obtain ⟨M1, HM1⟩ : ∃ M1 : Nat, Hid (∀ _ : Unit, max lb lm = M1) := ⟨_, fun _ => rfl⟩
  have eM1 : max (lb : Int) (lm : Int) = (M1 : Int) := by rw [← HM1.out ()]; omega
  have hM1 : (M1 : Int) ≤ 64 := by rw [← HM1.out ()]; omega
  obtain ⟨wd, HWv⟩ : ∃ wd : Nat, Hid (∀ _ : Unit, (M1 + 7) / 8 = wd) := ⟨_, fun _ => rfl⟩
  have eW : ((M1 : Int) + 7) / 8 = (wd : Int) := by rw [← HWv.out ()]; omega
  have hWd : (wd : Int) ≤ 8 := by rw [← HWv.out ()]; omega
  obtain ⟨S, HSv⟩ : ∃ S : Nat, Hid (∀ _ : Unit, wd * wd = S) := ⟨_, fun _ => rfl⟩
  have eS : (wd : Int) * (wd : Int) = (S : Int) := by rw [← HSv.out ()]; simp
  have HSb : Hid (S ≤ 64) := by
    have h1 : wd * wd ≤ 8 * 8 := Nat.mul_le_mul (by omega) (by omega)
    unfold Hid; rw [← HSv.out ()]; omega
  have hS : (S : Int) ≤ 64 := by have := HSb.out; omega
  rw [HM1.out (), HWv.out (), HSv.out ()]
  have hIB := IB.new w .u8 5 (List.replicate lm 0)
  have hfr : Fr w.heap.size no w (w.alloc (.cells (ints .u8 (List.replicate lm 0)) 5)) := (Fr.refl _ _ _).alloc (Nat.le_refl _) _
  clear h0 h1 h2 hb he hm
  have HO : Hid (∀ _ : Unit, List.replicate lm 0 = wantOut lm (powF b e m)) := fun _ => by unfold wantOut; rw [if_pos c3, c3]; rfl
  clear c1 c2 c3
  have hI2 := hIB
  have hf2 := hfr
  go_enter Sang.func39, Sang.ntmps39
  go_wp2_with ((with_reducible refine wl_make 27 5 (.tmp 34) (.tmp 34) .u8 .u8 .u8 lm ?_ ?_ i5 und33 hi5 hz5 hs5 ?_ ?_ ?_); rfl; rfl; (rw [hb5]; have := HS.out; omega); (unfold maxLen; have := HS.out; omega))
  generalize w.alloc (.cells (ints .u8 (List.replicate lm 0)) 5) = w1 at hI2 hf2 ⊢
  go_loop [19, 18] (fun kv tv => ∃ k tt : Nat, kv = .int .u8 (k : Int) ∧ tv = .int .u64 (tt : Int) ∧ Hid (∀ _ : Unit, k < 256 ∧ tt + blen k = blen e - 1)) (fun k _ => (intOf k).toNat)
  case atStart =>
    refine ⟨e / 2, 0, by first | rfl | simp, rfl, fun _ => ⟨by have := HS.out; omega, ?_⟩⟩
    rw [blen_half]; omega
  case round =>
    obtain ⟨k, tt, rfl, rfl, HK⟩ := hrel
    have hkt : (tt : Int) ≤ 8 := by
      have h1 := (HK.out ()).2
      have h2 : blen e ≤ 8 := blen_small HS.out.2.2.1
      omega
    have hk2 : (k : Int) < 256 := by have := (HK.out ()).1; omega
    by_cases hk0 : k = 0
    · subst hk0
      have HT : Hid (∀ _ : Unit, blen e - 1 = tt) := fun _ => by have := (HK.out ()).2; rw [show blen 0 = 0 from rfl] at this; omega
      clear HK
      obtain ⟨X, HX⟩ : ∃ X : Nat, Hid (∀ _ : Unit, max (tt) 1 = X) := ⟨_, fun _ => rfl⟩
      have eX : max ((tt : Nat) : Int) 1 = (X : Int) := by rw [← HX.out ()]; omega
      have hX : (X : Int) ≤ 600 := by rw [← HX.out ()]; omega
      obtain ⟨Y, HY⟩ : ∃ Y : Nat, Hid (∀ _ : Unit, S * X = Y) := ⟨_, fun _ => rfl⟩
      have eY : (S : Int) * (X : Int) = (Y : Int) := by rw [← HY.out ()]; simp
      have hY : (Y : Int) ≤ 38400 := by
        have h1 : S * X ≤ 64 * 600 := Nat.mul_le_mul HSb.out (by omega)
        rw [← HY.out ()]; omega
      go_wp2_with fail
      go_ret3
      rw [← HO.out ()]
      refine ⟨.slice (some ⟨w.heap.size, 0, none⟩) lm lm, ?_, ?_, hf2⟩
      · rw [HT.out (), HX.out (), HY.out (), show ((max 200 (Y / 3) : Nat) : Int) = max 200 ((Y : Int) / 3) by omega]
        rfl
      · have := NewD.of_ib (B := w.heap.size) hI2 lm (by simp) (by unfold maxLen; have := HS.out; omega) (Nat.le_refl _)
        rw [List.take_of_length_le (by simp)] at this
        exact this
    · have hk1 : (0 : Int) < (k : Int) := by omega
      have HN : Hid (∀ _ : Unit, tt + 1 + blen (k / 2) = blen e - 1 ∧ k / 2 < k) := fun _ => by
        have h1 := (HK.out ()).2
        have h2 := blen_pos hk0
        rw [blen_half]
        omega
      clear hk0
      go_wp2_with fail
      refine ⟨⟨k / 2, tt + 1, by first | rfl | simp, by first | rfl | simp, fun _ => ⟨by omega, (HN.out ()).1⟩⟩, ?_⟩
      have := (HN.out ()).2
      simp [intOf]
      omega

set_option maxRecDepth 10000 in
set_option maxHeartbeats 600000 in
theorem wantN_bsm (lb le lm b e m : Nat) (w : World) (h0 : lb ≤ 64) (h1 : le ≤ 64) (h2 : lm ≤ 64) (hb : b < 256) (he : e < 256) (hm : m < 256) (c1 : 0 < lb) (c2 : 0 < le ∧ le ≤ 32) (c3 : 0 < lm ∧ m = 0) :
    Calls Sang.prog 39 #[.int .u8 (lb : Int), .int .u8 (le : Int), .int .u8 (lm : Int), .int .u8 (b : Int), .int .u8 (e : Int), .int .u8 (m : Int)] w fun e' w' =>
      ∃ v', e' = .returned (.tuple #[v', .int .u64 ((max 200 ((max lb lm + 7) / 8 * ((max lb lm + 7) / 8) * max (blen e - 1) 1 / 3) : Nat) : Int), .bool true]) ∧ NewD w.heap.size w' v' (wantOut lm (powF b e m)) ∧ Fr w.heap.size no w w' := by
  obtain ⟨i5, hi5, hz5, hs5, hb5⟩ := info_parts info5
  have g0 : (lb : Int) ≤ 64 := by omega
  have g1 : (le : Int) ≤ 64 := by omega
  have g2 : (lm : Int) ≤ 64 := by omega
  have gb : (b : Int) ≤ 255 := by omega
  have ge : (e : Int) ≤ 255 := by omega
  have gm : (m : Int) ≤ 255 := by omega
  have d1 : ((lb : Int) == 0) = false := by simp; omega
  have d2 : ((le : Int) == 0) = false := by simp; omega
  have d3 : ¬ (32 : Int) < (le : Int) := by omega
  have d4 : (0 : Int) < (lm : Int) := by omega
  have d5 : ¬ (0 : Int) < (m : Int) := by omega
  have HS : Hid (lm ≤ 64 ∧ m < 256 ∧ e < 256 ∧ b < 256) := ⟨h2, hm, he, hb⟩
  obtain ⟨M1, HM1⟩ : ∃ M1 : Nat, Hid (∀ _ : Unit, max lb lm = M1) := ⟨_, fun _ => rfl⟩
  have eM1 : max (lb : Int) (lm : Int) = (M1 : Int) := by rw [← HM1.out ()]; omega
  have hM1 : (M1 : Int) ≤ 64 := by rw [← HM1.out ()]; omega
  obtain ⟨wd, HWv⟩ : ∃ wd : Nat, Hid (∀ _ : Unit, (M1 + 7) / 8 = wd) := ⟨_, fun _ => rfl⟩
  have eW : ((M1 : Int) + 7) / 8 = (wd : Int) := by rw [← HWv.out ()]; omega
  have hWd : (wd : Int) ≤ 8 := by rw [← HWv.out ()]; omega
  obtain ⟨S, HSv⟩ : ∃ S : Nat, Hid (∀ _ : Unit, wd * wd = S) := ⟨_, fun _ => rfl⟩
  have eS : (wd : Int) * (wd : Int) = (S : Int) := by rw [← HSv.out ()]; simp
  have HSb : Hid (S ≤ 64) := by
    have h1 : wd * wd ≤ 8 * 8 := Nat.mul_le_mul (by omega) (by omega)
    unfold Hid; rw [← HSv.out ()]; omega
  have hS : (S : Int) ≤ 64 := by have := HSb.out; omega
  rw [HM1.out (), HWv.out (), HSv.out ()]
  have hIB := IB.new w .u8 5 (List.replicate lm 0)
  have hfr : Fr w.heap.size no w (w.alloc (.cells (ints .u8 (List.replicate lm 0)) 5)) := (Fr.refl _ _ _).alloc (Nat.le_refl _) _
  clear h0 h1 h2 hb he hm
  have HO : Hid (∀ _ : Unit, List.replicate lm 0 = wantOut lm (powF b e m)) := fun _ => by
    unfold wantOut
    rw [if_neg (by omega), c3.2, powF_none, ← List.replicate_succ', show lm - 1 + 1 = lm by omega]
  clear c1 c2 c3
  have hI2 := hIB
  have hf2 := hfr
  go_enter Sang.func39, Sang.ntmps39
  go_wp2_with ((with_reducible refine wl_make 27 5 (.tmp 34) (.tmp 34) .u8 .u8 .u8 lm ?_ ?_ i5 und33 hi5 hz5 hs5 ?_ ?_ ?_); rfl; rfl; (rw [hb5]; have := HS.out; omega); (unfold maxLen; have := HS.out; omega))
  generalize w.alloc (.cells (ints .u8 (List.replicate lm 0)) 5) = w1 at hI2 hf2 ⊢
  go_loop [19, 18] (fun kv tv => ∃ k tt : Nat, kv = .int .u8 (k : Int) ∧ tv = .int .u64 (tt : Int) ∧ Hid (∀ _ : Unit, k < 256 ∧ tt + blen k = blen e - 1)) (fun k _ => (intOf k).toNat)
  case atStart =>
    refine ⟨e / 2, 0, by first | rfl | simp, rfl, fun _ => ⟨by have := HS.out; omega, ?_⟩⟩
    rw [blen_half]; omega
  case round =>
    obtain ⟨k, tt, rfl, rfl, HK⟩ := hrel
    have hkt : (tt : Int) ≤ 8 := by
      have h1 := (HK.out ()).2
      have h2 : blen e ≤ 8 := blen_small HS.out.2.2.1
      omega
    have hk2 : (k : Int) < 256 := by have := (HK.out ()).1; omega
    by_cases hk0 : k = 0
    · subst hk0
      have HT : Hid (∀ _ : Unit, blen e - 1 = tt) := fun _ => by have := (HK.out ()).2; rw [show blen 0 = 0 from rfl] at this; omega
      clear HK
      obtain ⟨X, HX⟩ : ∃ X : Nat, Hid (∀ _ : Unit, max (tt) 1 = X) := ⟨_, fun _ => rfl⟩
      have eX : max ((tt : Nat) : Int) 1 = (X : Int) := by rw [← HX.out ()]; omega
      have hX : (X : Int) ≤ 600 := by rw [← HX.out ()]; omega
      obtain ⟨Y, HY⟩ : ∃ Y : Nat, Hid (∀ _ : Unit, S * X = Y) := ⟨_, fun _ => rfl⟩
      have eY : (S : Int) * (X : Int) = (Y : Int) := by rw [← HY.out ()]; simp
      have hY : (Y : Int) ≤ 38400 := by
        have h1 : S * X ≤ 64 * 600 := Nat.mul_le_mul HSb.out (by omega)
        rw [← HY.out ()]; omega
      go_wp2_with fail
      go_ret3
      rw [← HO.out ()]
      refine ⟨.slice (some ⟨w.heap.size, 0, none⟩) lm lm, ?_, ?_, hf2⟩
      · rw [HT.out (), HX.out (), HY.out (), show ((max 200 (Y / 3) : Nat) : Int) = max 200 ((Y : Int) / 3) by omega]
        rfl
      · have := NewD.of_ib (B := w.heap.size) hI2 lm (by simp) (by unfold maxLen; have := HS.out; omega) (Nat.le_refl _)
        rw [List.take_of_length_le (by simp)] at this
        exact this
    · have hk1 : (0 : Int) < (k : Int) := by omega
      have HN : Hid (∀ _ : Unit, tt + 1 + blen (k / 2) = blen e - 1 ∧ k / 2 < k) := fun _ => by
        have h1 := (HK.out ()).2
        have h2 := blen_pos hk0
        rw [blen_half]
        omega
      clear hk0
      go_wp2_with fail
      refine ⟨⟨k / 2, tt + 1, by first | rfl | simp, by first | rfl | simp, fun _ => ⟨by omega, (HN.out ()).1⟩⟩, ?_⟩
      have := (HN.out ()).2
      simp [intOf]
      omega

set_option maxRecDepth 10000 in
set_option maxHeartbeats 600000 in
theorem wantN_bbr (lb le lm b e m : Nat) (w : World) (h0 : lb ≤ 64) (h1 : le ≤ 64) (h2 : lm ≤ 64) (hb : b < 256) (he : e < 256) (hm : m < 256) (c1 : 0 < lb) (c2 : 32 < le) (c3 : 0 < lm ∧ 0 < m) :
    Calls Sang.prog 39 #[.int .u8 (lb : Int), .int .u8 (le : Int), .int .u8 (lm : Int), .int .u8 (b : Int), .int .u8 (e : Int), .int .u8 (m : Int)] w fun e' w' =>
      ∃ v', e' = .returned (.tuple #[v', .int .u64 ((max 200 ((max lb lm + 7) / 8 * ((max lb lm + 7) / 8) * max (8 * (le - 32)) 1 / 3) : Nat) : Int), .bool true]) ∧ NewD w.heap.size w' v' (wantOut lm (powF b e m)) ∧ Fr w.heap.size no w w' := by
  obtain ⟨i5, hi5, hz5, hs5, hb5⟩ := info_parts info5
  have g0 : (lb : Int) ≤ 64 := by omega
  have g1 : (le : Int) ≤ 64 := by omega
  have g2 : (lm : Int) ≤ 64 := by omega
  have gb : (b : Int) ≤ 255 := by omega
  have ge : (e : Int) ≤ 255 := by omega
  have gm : (m : Int) ≤ 255 := by omega
  have d1 : ((lb : Int) == 0) = false := by simp; omega
  have d2 : ((le : Int) == 0) = false := by simp; omega
  have d3 : (32 : Int) < (le : Int) := by omega
  have d4 : (0 : Int) < (lm : Int) := by omega
  have d5 : (0 : Int) < (m : Int) := by omega
  have HS : Hid (lm ≤ 64 ∧ m < 256 ∧ e < 256 ∧ b < 256) := ⟨h2, hm, he, hb⟩
  obtain ⟨M1, HM1⟩ : ∃ M1 : Nat, Hid (∀ _ : Unit, max lb lm = M1) := ⟨_, fun _ => rfl⟩
  have eM1 : max (lb : Int) (lm : Int) = (M1 : Int) := by rw [← HM1.out ()]; omega
  have hM1 : (M1 : Int) ≤ 64 := by rw [← HM1.out ()]; omega
  obtain ⟨wd, HWv⟩ : ∃ wd : Nat, Hid (∀ _ : Unit, (M1 + 7) / 8 = wd) := ⟨_, fun _ => rfl⟩
  have eW : ((M1 : Int) + 7) / 8 = (wd : Int) := by rw [← HWv.out ()]; omega
  have hWd : (wd : Int) ≤ 8 := by rw [← HWv.out ()]; omega
  obtain ⟨S, HSv⟩ : ∃ S : Nat, Hid (∀ _ : Unit, wd * wd = S) := ⟨_, fun _ => rfl⟩
  have eS : (wd : Int) * (wd : Int) = (S : Int) := by rw [← HSv.out ()]; simp
  have HSb : Hid (S ≤ 64) := by
    have h1 : wd * wd ≤ 8 * 8 := Nat.mul_le_mul (by omega) (by omega)
    unfold Hid; rw [← HSv.out ()]; omega
  have hS : (S : Int) ≤ 64 := by have := HSb.out; omega
  rw [HM1.out (), HWv.out (), HSv.out ()]
  have hIB := IB.new w .u8 5 (List.replicate lm 0)
  have hfr : Fr w.heap.size no w (w.alloc (.cells (ints .u8 (List.replicate lm 0)) 5)) := (Fr.refl _ _ _).alloc (Nat.le_refl _) _
  clear h0 h1 h2 hb he hm
  have hlm : Hid (0 < lm ∧ 0 < m) := c3
  clear c1 c2 c3
  go_enter Sang.func39, Sang.ntmps39
  go_wp2_with ((with_reducible refine wl_make 27 5 (.tmp 34) (.tmp 34) .u8 .u8 .u8 lm ?_ ?_ i5 und33 hi5 hz5 hs5 ?_ ?_ ?_); rfl; rfl; (rw [hb5]; have := HS.out; omega); (unfold maxLen; have := HS.out; omega))
  generalize w.alloc (.cells (ints .u8 (List.replicate lm 0)) 5) = w1 at hIB hfr ⊢
  go_loop [16, 15] (fun kv rv => ∃ k r : Nat, k ≤ e ∧ kv = .int .u8 (k : Int) ∧ rv = .int .i64 (r : Int) ∧ Hid (∀ _ : Unit, r = powF b (e - k) m)) (fun k _ => (intOf k).toNat)
  case atStart =>
    refine ⟨e, 1 % m, Nat.le_refl _, rfl, ?_, fun _ => ?_⟩
    · first | rfl | (congr 1; omega)
    · rw [Nat.sub_self, powF_zero]; unfold remF; rw [if_neg (by have := hlm.out; omega)]
  case round =>
    obtain ⟨k, r, hk, rfl, rfl, HRv⟩ := hrel
    have HRl : Hid (r < m) := by unfold Hid; rw [HRv.out ()]; exact powF_lt _ _ (by have := hlm.out; omega)
    have hr : (r : Int) ≤ 255 := by have := HRl.out; have := HS.out; omega
    cases k with
    | succ k =>
      have HN : Hid (∀ _ : Unit, r * b % m = powF b (e - k) m) := fun _ => by
        rw [show e - k = (e - (k + 1)) + 1 by omega, ← powF_mul, ← HRv.out ()]
        unfold remF
        rw [if_neg (by have := hlm.out; omega)]
      have ek : ((k + 1 : Nat) : Int) - 1 = (k : Int) := by omega
      obtain ⟨q, HQ⟩ : ∃ q : Nat, Hid (∀ _ : Unit, r * b = q) := ⟨_, fun _ => rfl⟩
      have eq1 : (r : Int) * (b : Int) = (q : Int) := by rw [← HQ.out ()]; simp
      have hq : (q : Int) ≤ 65025 := by
        have h1 : r * b ≤ 255 * 255 := Nat.mul_le_mul (by omega) (by omega)
        rw [← HQ.out ()]; omega
      rw [HQ.out ()] at HN
      have eqm : (q : Int) % (m : Int) = ((q % m : Nat) : Int) := by omega
      obtain ⟨r2, HR2⟩ : ∃ r2 : Nat, Hid (∀ _ : Unit, q % m = r2) := ⟨_, fun _ => rfl⟩
      rw [HR2.out ()] at HN eqm
      go_wp2_with fail
      exact ⟨⟨k, r2, by omega, by simp, by first | rfl | exact congrArg (Value.int .i64) eqm, HN⟩, by simp [intOf]⟩
    | zero =>
      obtain ⟨p, HP⟩ : ∃ p : Nat, Hid (∀ _ : Unit, lm = p + 1) := ⟨lm - 1, fun _ => by have := hlm.out; omega⟩
      have ep : (lm : Int) - 1 = (p : Int) := by rw [HP.out ()]; omega
      have hp : (p : Int) < (lm : Int) := by omega
      have hc := hIB.cell p (by simp; omega)
      have hz := hIB.unfrozen p
      generalize (List.replicate lm 0).getD p 0 = z0 at hc
      have HO : Hid (∀ _ : Unit, (List.replicate lm 0).set p r = wantOut lm (powF b e m)) := fun _ => by
        unfold wantOut
        rw [if_neg (by have := HP.out (); omega), HP.out (), List.replicate_succ', List.set_append_right _ _ (by simp), HRv.out ()]
        simp
      have hI2 := hIB.set p r
      have hf2 := hfr.setCell (p := ⟨w.heap.size, p, none⟩) (.inl (Nat.le_refl _)) (.int .u8 (r : Int))
      clear HRv HRl
      obtain ⟨tt, HT⟩ : ∃ tt : Nat, Hid (∀ _ : Unit, 8 * (le - 32) = tt) := ⟨_, fun _ => rfl⟩
      have eT : 8 * ((le : Int) - 32) = (tt : Int) := by rw [← HT.out ()]; omega
      have hT : (tt : Int) ≤ 256 := by omega
      obtain ⟨X, HX⟩ : ∃ X : Nat, Hid (∀ _ : Unit, max (tt) 1 = X) := ⟨_, fun _ => rfl⟩
      have eX : max ((tt : Nat) : Int) 1 = (X : Int) := by rw [← HX.out ()]; omega
      have hX : (X : Int) ≤ 600 := by rw [← HX.out ()]; omega
      obtain ⟨Y, HY⟩ : ∃ Y : Nat, Hid (∀ _ : Unit, S * X = Y) := ⟨_, fun _ => rfl⟩
      have eY : (S : Int) * (X : Int) = (Y : Int) := by rw [← HY.out ()]; simp
      have hY : (Y : Int) ≤ 38400 := by
        have h1 : S * X ≤ 64 * 600 := Nat.mul_le_mul HSb.out (by omega)
        rw [← HY.out ()]; omega
      go_wp2_with fail
      go_ret3
      rw [← HO.out ()]
      refine ⟨.slice (some ⟨w.heap.size, 0, none⟩) lm lm, ?_, ?_, hf2⟩
      · rw [HT.out (), HX.out (), HY.out (), show ((max 200 (Y / 3) : Nat) : Int) = max 200 ((Y : Int) / 3) by omega]
        rfl
      · have := NewD.of_ib (B := w.heap.size) hI2 lm (by simp) (by unfold maxLen; have := HS.out; omega) (Nat.le_refl _)
        rw [List.take_of_length_le (by simp)] at this
        exact this

set_option maxRecDepth 10000 in
set_option maxHeartbeats 600000 in
theorem wantN_bbl (lb le lm b e m : Nat) (w : World) (h0 : lb ≤ 64) (h1 : le ≤ 64) (h2 : lm ≤ 64) (hb : b < 256) (he : e < 256) (hm : m < 256) (c1 : 0 < lb) (c2 : 32 < le) (c3 : lm = 0) :
    Calls Sang.prog 39 #[.int .u8 (lb : Int), .int .u8 (le : Int), .int .u8 (lm : Int), .int .u8 (b : Int), .int .u8 (e : Int), .int .u8 (m : Int)] w fun e' w' =>
      ∃ v', e' = .returned (.tuple #[v', .int .u64 ((max 200 ((max lb lm + 7) / 8 * ((max lb lm + 7) / 8) * max (8 * (le - 32)) 1 / 3) : Nat) : Int), .bool true]) ∧ NewD w.heap.size w' v' (wantOut lm (powF b e m)) ∧ Fr w.heap.size no w w' := by
  obtain ⟨i5, hi5, hz5, hs5, hb5⟩ := info_parts info5
  have g0 : (lb : Int) ≤ 64 := by omega
  have g1 : (le : Int) ≤ 64 := by omega
  have g2 : (lm : Int) ≤ 64 := by omega
  have gb : (b : Int) ≤ 255 := by omega
  have ge : (e : Int) ≤ 255 := by omega
  have gm : (m : Int) ≤ 255 := by omega
  have d1 : ((lb : Int) == 0) = false := by simp; omega
  have d2 : ((le : Int) == 0) = false := by simp; omega
  have d3 : (32 : Int) < (le : Int) := by omega
  have d4 : ¬ (0 : Int) < (lm : Int) := by omega
  have HS : Hid (lm ≤ 64 ∧ m < 256 ∧ e < 256 ∧ b < 256) := ⟨h2, hm, he, hb⟩
  obtain ⟨M1, HM1⟩ : ∃ M1 : Nat, Hid (∀ _ : Unit, max lb lm = M1) := ⟨_, fun _ => rfl⟩
  have eM1 : max (lb : Int) (lm : Int) = (M1 : Int) := by rw [← HM1.out ()]; omega
  have hM1 : (M1 : Int) ≤ 64 := by rw [← HM1.out ()]; omega
  obtain ⟨wd, HWv⟩ : ∃ wd : Nat, Hid (∀ _ : Unit, (M1 + 7) / 8 = wd) := ⟨_, fun _ => rfl⟩
  have eW : ((M1 : Int) + 7) / 8 = (wd : Int) := by rw [← HWv.out ()]; omega
  have hWd : (wd : Int) ≤ 8 := by rw [← HWv.out ()]; omega
  obtain ⟨S, HSv⟩ : ∃ S : Nat, Hid (∀ _ : Unit, wd * wd = S) := ⟨_, fun _ => rfl⟩
  have eS : (wd : Int) * (wd : Int) = (S : Int) := by rw [← HSv.out ()]; simp
  have HSb : Hid (S ≤ 64) := by
    have h1 : wd * wd ≤ 8 * 8 := Nat.mul_le_mul (by omega) (by omega)
    unfold Hid; rw [← HSv.out ()]; omega
  have hS : (S : Int) ≤ 64 := by have := HSb.out; omega
  rw [HM1.out (), HWv.out (), HSv.out ()]
  have hIB := IB.new w .u8 5 (List.replicate lm 0)
  have hfr : Fr w.heap.size no w (w.alloc (.cells (ints .u8 (List.replicate lm 0)) 5)) := (Fr.refl _ _ _).alloc (Nat.le_refl _) _
  clear h0 h1 h2 hb he hm
  have HO : Hid (∀ _ : Unit, List.replicate lm 0 = wantOut lm (powF b e m)) := fun _ => by unfold wantOut; rw [if_pos c3, c3]; rfl
  clear c1 c2 c3
  have hI2 := hIB
  have hf2 := hfr
  go_enter Sang.func39, Sang.ntmps39
  obtain ⟨tt, HT⟩ : ∃ tt : Nat, Hid (∀ _ : Unit, 8 * (le - 32) = tt) := ⟨_, fun _ => rfl⟩
  have eT : 8 * ((le : Int) - 32) = (tt : Int) := by rw [← HT.out ()]; omega
  have hT : (tt : Int) ≤ 256 := by omega
  obtain ⟨X, HX⟩ : ∃ X : Nat, Hid (∀ _ : Unit, max (tt) 1 = X) := ⟨_, fun _ => rfl⟩
  have eX : max ((tt : Nat) : Int) 1 = (X : Int) := by rw [← HX.out ()]; omega
  have hX : (X : Int) ≤ 600 := by rw [← HX.out ()]; omega
  obtain ⟨Y, HY⟩ : ∃ Y : Nat, Hid (∀ _ : Unit, S * X = Y) := ⟨_, fun _ => rfl⟩
  have eY : (S : Int) * (X : Int) = (Y : Int) := by rw [← HY.out ()]; simp
  have hY : (Y : Int) ≤ 38400 := by
    have h1 : S * X ≤ 64 * 600 := Nat.mul_le_mul HSb.out (by omega)
    rw [← HY.out ()]; omega
  go_wp2_with ((with_reducible refine wl_make 27 5 (.tmp 34) (.tmp 34) .u8 .u8 .u8 lm ?_ ?_ i5 und33 hi5 hz5 hs5 ?_ ?_ ?_); rfl; rfl; (rw [hb5]; have := HS.out; omega); (unfold maxLen; have := HS.out; omega))
  go_ret3
  rw [← HO.out ()]
  refine ⟨.slice (some ⟨w.heap.size, 0, none⟩) lm lm, ?_, ?_, hf2⟩
  · rw [HT.out (), HX.out (), HY.out (), show ((max 200 (Y / 3) : Nat) : Int) = max 200 ((Y : Int) / 3) by omega]
    rfl
  · have := NewD.of_ib (B := w.heap.size) hI2 lm (by simp) (by unfold maxLen; have := HS.out; omega) (Nat.le_refl _)
    rw [List.take_of_length_le (by simp)] at this
    exact this

set_option maxRecDepth 10000 in
set_option maxHeartbeats 600000 in
theorem wantN_bbm (lb le lm b e m : Nat) (w : World) (h0 : lb ≤ 64) (h1 : le ≤ 64) (h2 : lm ≤ 64) (hb : b < 256) (he : e < 256) (hm : m < 256) (c1 : 0 < lb) (c2 : 32 < le) (c3 : 0 < lm ∧ m = 0) :
    Calls Sang.prog 39 #[.int .u8 (lb : Int), .int .u8 (le : Int), .int .u8 (lm : Int), .int .u8 (b : Int), .int .u8 (e : Int), .int .u8 (m : Int)] w fun e' w' =>
      ∃ v', e' = .returned (.tuple #[v', .int .u64 ((max 200 ((max lb lm + 7) / 8 * ((max lb lm + 7) / 8) * max (8 * (le - 32)) 1 / 3) : Nat) : Int), .bool true]) ∧ NewD w.heap.size w' v' (wantOut lm (powF b e m)) ∧ Fr w.heap.size no w w' := by
  obtain ⟨i5, hi5, hz5, hs5, hb5⟩ := info_parts info5
  have g0 : (lb : Int) ≤ 64 := by omega
  have g1 : (le : Int) ≤ 64 := by omega
  have g2 : (lm : Int) ≤ 64 := by omega
  have gb : (b : Int) ≤ 255 := by omega
  have ge : (e : Int) ≤ 255 := by omega
  have gm : (m : Int) ≤ 255 := by omega
  have d1 : ((lb : Int) == 0) = false := by simp; omega
  have d2 : ((le : Int) == 0) = false := by simp; omega
  have d3 : (32 : Int) < (le : Int) := by omega
  have d4 : (0 : Int) < (lm : Int) := by omega
  have d5 : ¬ (0 : Int) < (m : Int) := by omega
  have HS : Hid (lm ≤ 64 ∧ m < 256 ∧ e < 256 ∧ b < 256) := ⟨h2, hm, he, hb⟩
  obtain ⟨M1, HM1⟩ : ∃ M1 : Nat, Hid (∀ _ : Unit, max lb lm = M1) := ⟨_, fun _ => rfl⟩
  have eM1 : max (lb : Int) (lm : Int) = (M1 : Int) := by rw [← HM1.out ()]; omega
  have hM1 : (M1 : Int) ≤ 64 := by rw [← HM1.out ()]; omega
  obtain ⟨wd, HWv⟩ : ∃ wd : Nat, Hid (∀ _ : Unit, (M1 + 7) / 8 = wd) := ⟨_, fun _ => rfl⟩
  have eW : ((M1 : Int) + 7) / 8 = (wd : Int) := by rw [← HWv.out ()]; omega
  have hWd : (wd : Int) ≤ 8 := by rw [← HWv.out ()]; omega
  obtain ⟨S, HSv⟩ : ∃ S : Nat, Hid (∀ _ : Unit, wd * wd = S) := ⟨_, fun _ => rfl⟩
  have eS : (wd : Int) * (wd : Int) = (S : Int) := by rw [← HSv.out ()]; simp
  have HSb : Hid (S ≤ 64) := by
    have h1 : wd * wd ≤ 8 * 8 := Nat.mul_le_mul (by omega) (by omega)
    unfold Hid; rw [← HSv.out ()]; omega
  have hS : (S : Int) ≤ 64 := by have := HSb.out; omega
  rw [HM1.out (), HWv.out (), HSv.out ()]
  have hIB := IB.new w .u8 5 (List.replicate lm 0)
  have hfr : Fr w.heap.size no w (w.alloc (.cells (ints .u8 (List.replicate lm 0)) 5)) := (Fr.refl _ _ _).alloc (Nat.le_refl _) _
  clear h0 h1 h2 hb he hm
  have HO : Hid (∀ _ : Unit, List.replicate lm 0 = wantOut lm (powF b e m)) := fun _ => by
    unfold wantOut
    rw [if_neg (by omega), c3.2, powF_none, ← List.replicate_succ', show lm - 1 + 1 = lm by omega]
  clear c1 c2 c3
  have hI2 := hIB
  have hf2 := hfr
  go_enter Sang.func39, Sang.ntmps39
  obtain ⟨tt, HT⟩ : ∃ tt : Nat, Hid (∀ _ : Unit, 8 * (le - 32) = tt) := ⟨_, fun _ => rfl⟩
  have eT : 8 * ((le : Int) - 32) = (tt : Int) := by rw [← HT.out ()]; omega
  have hT : (tt : Int) ≤ 256 := by omega
  obtain ⟨X, HX⟩ : ∃ X : Nat, Hid (∀ _ : Unit, max (tt) 1 = X) := ⟨_, fun _ => rfl⟩
  have eX : max ((tt : Nat) : Int) 1 = (X : Int) := by rw [← HX.out ()]; omega
  have hX : (X : Int) ≤ 600 := by rw [← HX.out ()]; omega
  obtain ⟨Y, HY⟩ : ∃ Y : Nat, Hid (∀ _ : Unit, S * X = Y) := ⟨_, fun _ => rfl⟩
  have eY : (S : Int) * (X : Int) = (Y : Int) := by rw [← HY.out ()]; simp
  have hY : (Y : Int) ≤ 38400 := by
    have h1 : S * X ≤ 64 * 600 := Nat.mul_le_mul HSb.out (by omega)
    rw [← HY.out ()]; omega
  go_wp2_with ((with_reducible refine wl_make 27 5 (.tmp 34) (.tmp 34) .u8 .u8 .u8 lm ?_ ?_ i5 und33 hi5 hz5 hs5 ?_ ?_ ?_); rfl; rfl; (rw [hb5]; have := HS.out; omega); (unfold maxLen; have := HS.out; omega))
  go_ret3
  rw [← HO.out ()]
  refine ⟨.slice (some ⟨w.heap.size, 0, none⟩) lm lm, ?_, ?_, hf2⟩
  · rw [HT.out (), HX.out (), HY.out (), show ((max 200 (Y / 3) : Nat) : Int) = max 200 ((Y : Int) / 3) by omega]
    rfl
  · have := NewD.of_ib (B := w.heap.size) hI2 lm (by simp) (by unfold maxLen; have := HS.out; omega) (Nat.le_refl _)
    rw [List.take_of_length_le (by simp)] at this
    exact this

end Go.Proofs.YgcsanGreat
