/-
  modExpInput once more: the result lies in new memory.
-/
import Derived.Test.YgcsanGreatNewE
import Derived.Test.YgcsanGreatPlainH
namespace Go.Proofs.YgcsanGreat
open Go.RowKit
set_option linter.unusedSimpArgs false
set_option linter.unusedVariables false

set_option maxRecDepth 10000 in
set_option maxHeartbeats 1000000 in
theorem modExpInput_new (lb le lm b e m : Nat) (w : World) (h0 : lb < 70) (h1 : le < 70) (h2 : lm < 70) (h3 : b < 256) (h4 : e < 256) (h5 : m < 256) :
    Calls Sang.prog 12 #[.int .u8 (lb : Int), .int .u8 (le : Int), .int .u8 (lm : Int), .int .u8 (b : Int), .int .u8 (e : Int), .int .u8 (m : Int)] w fun e' w' => ∃ v', e' = .returned v' ∧ NewD w.heap.size w' v' (mxIn lb le lm b e m) ∧ Fr w.heap.size no w w' := by
  obtain ⟨i5, hi5, hz5, hs5, hb5⟩ := info_parts info5
  have HLen := mxIn_length lb le lm b e m
  have HM : Hid (∀ _ : Unit, mxIn lb le lm b e m = (let L := (((List.replicate (96 + lb + le + lm) 0).set 31 lb).set 63 le).set 95 lm
    let L := if 0 < lb then L.set (95 + lb) b else L
    let L := if 0 < le then L.set (95 + lb + le) e else L
    if 0 < lm then L.set (95 + lb + le + lm) m else L)) := fun _ => rfl
  obtain ⟨n, HN⟩ : ∃ n : Nat, Hid (∀ _ : Unit, 96 + lb + le + lm = n) := ⟨_, fun _ => rfl⟩
  rw [HN.out ()] at HM HLen
  have HLen' : Hid (∀ _ : Unit, (mxIn lb le lm b e m).length = n) := fun _ => HLen
  clear HLen
  generalize mxIn lb le lm b e m = R at *
  obtain ⟨p1, HP1⟩ : ∃ p : Nat, Hid (∀ _ : Unit, 95 + lb = p) := ⟨_, fun _ => rfl⟩
  obtain ⟨p2, HP2⟩ : ∃ p : Nat, Hid (∀ _ : Unit, 95 + lb + le = p) := ⟨_, fun _ => rfl⟩
  obtain ⟨p3, HP3⟩ : ∃ p : Nat, Hid (∀ _ : Unit, 95 + lb + le + lm = p) := ⟨_, fun _ => rfl⟩
  rw [HP3.out (), HP2.out (), HP1.out ()] at HM
  have a1 : (96 : Int) + (lb : Int) - 1 = (p1 : Int) := by rw [← HP1.out ()]; omega
  have a2 : (96 : Int) + (lb : Int) + (le : Int) - 1 = (p2 : Int) := by rw [← HP2.out ()]; omega
  have a4 : (96 : Int) + (lb : Int) + (le : Int) + (lm : Int) = (n : Int) := by rw [← HN.out ()]; omega
  have a3 : (n : Int) - 1 = (p3 : Int) := by rw [← HP3.out ()]; omega
  have hn0 : (n : Int) ≤ 306 := by omega
  have hn1 : (96 : Int) ≤ (n : Int) := by omega
  have hp1 : (p1 : Int) < 96 + (lb : Int) := by omega
  have hq1 : (95 : Int) ≤ (p1 : Int) := by omega
  have hq2 : (95 : Int) ≤ (p2 : Int) := by omega
  have hq3 : (95 : Int) ≤ (p3 : Int) := by omega
  have g0 : (lb : Int) < 70 := by omega
  have g1 : (le : Int) < 70 := by omega
  have g2 : (lm : Int) < 70 := by omega
  have hIB := IB.new w .u8 5 (List.replicate n 0)
  have hfr : Fr w.heap.size no w (w.alloc (.cells (ints .u8 (List.replicate n 0)) 5)) := (Fr.refl _ _ _).alloc (Nat.le_refl _) _
  have HNb : Hid (96 ≤ n ∧ n ≤ 306 ∧ (0 < lb → p1 < n) ∧ (0 < le → p2 < n) ∧ (0 < lm → p3 < n)) := ⟨by omega, by omega, fun h => by omega, fun h => by omega, fun h => by omega⟩
  have HIB : Hid (IB (w.alloc (.cells (ints .u8 (List.replicate n 0)) 5)) w.heap.size .u8 5 (List.replicate n 0)) := hIB
  have HFR : Hid (Fr w.heap.size no w (w.alloc (.cells (ints .u8 (List.replicate n 0)) 5))) := hfr
  clear h0 h1 h2 h3 h4 h5 hIB hfr
  by_cases hc1 : 0 < lb
  · by_cases hc2 : 0 < le
    · by_cases hc3 : 0 < lm
      · have tx : (0 : Int) < (lb : Int) := by omega
        have ty : (0 : Int) < (le : Int) := by omega
        have tz : (0 : Int) < (lm : Int) := by omega
        have b0 : Hid (∀ _ : Unit, 31 < (List.replicate n 0).length) := fun _ => (by simp; have := HNb.out; omega)
        have b1 : Hid (∀ _ : Unit, 63 < ((List.replicate n 0).set 31 lb).length) := fun _ => (by simp; have := HNb.out; omega)
        have b2 : Hid (∀ _ : Unit, 95 < (((List.replicate n 0).set 31 lb).set 63 le).length) := fun _ => (by simp; have := HNb.out; omega)
        have b3 : Hid (∀ _ : Unit, p1 < ((((List.replicate n 0).set 31 lb).set 63 le).set 95 lm).length) := fun _ => (by simp; exact HNb.out.2.2.1 hc1)
        have b4 : Hid (∀ _ : Unit, p2 < (((((List.replicate n 0).set 31 lb).set 63 le).set 95 lm).set p1 b).length) := fun _ => (by simp; exact HNb.out.2.2.2.1 hc2)
        have b5 : Hid (∀ _ : Unit, p3 < ((((((List.replicate n 0).set 31 lb).set 63 le).set 95 lm).set p1 b).set p2 e).length) := fun _ => (by simp; exact HNb.out.2.2.2.2 hc3)
        have HR : Hid (∀ _ : Unit, R = ((((((List.replicate n 0).set 31 lb).set 63 le).set 95 lm).set p1 b).set p2 e).set p3 m) := fun _ => by rw [HM.out ()]; simp only [if_pos hc1, if_pos hc2, if_pos hc3]
        clear hc1 hc2 hc3 HM
        go_enter Sang.func12, Sang.ntmps12
        go_wp2_with (first
          | ((with_reducible refine wl_make 27 5 (.tmp 23) (.tmp 23) .u8 .i64 .i64 n ?_ ?_ i5 und33 hi5 hz5 hs5 ?_ ?_ ?_); rfl; rfl; (rw [hb5]; have := HNb.out; omega); (unfold maxLen; have := HNb.out; omega))
          | ((with_reducible refine wl_put1 5 (.tmp 27) (.tmp 26) w.heap.size 31 .u8 5 (List.replicate n 0) lb (lb : Int) ?_ ?_ rfl HIB.out (b0.out ()) siz5 ?_); rfl; rfl)
          | ((with_reducible refine wl_put 5 (.tmp 30) (.tmp 29) w.heap.size 63 .u8 5 ((List.replicate n 0).set 31 lb) le (le : Int) ?_ ?_ rfl HIB.out.lt (b1.out ()) siz5 ?_); rfl; rfl)
          | ((with_reducible refine wl_put 5 (.tmp 33) (.tmp 32) w.heap.size 95 .u8 5 (((List.replicate n 0).set 31 lb).set 63 le) lm (lm : Int) ?_ ?_ rfl HIB.out.lt (b2.out ()) siz5 ?_); rfl; rfl)
          | ((with_reducible refine wl_put 5 (.tmp 43) (.tmp 42) w.heap.size p1 .u8 5 ((((List.replicate n 0).set 31 lb).set 63 le).set 95 lm) b (b : Int) ?_ ?_ rfl HIB.out.lt (b3.out ()) siz5 ?_); rfl; rfl)
          | ((with_reducible refine wl_put 5 (.tmp 54) (.tmp 53) w.heap.size p2 .u8 5 (((((List.replicate n 0).set 31 lb).set 63 le).set 95 lm).set p1 b) e (e : Int) ?_ ?_ rfl HIB.out.lt (b4.out ()) siz5 ?_); rfl; rfl)
          | ((with_reducible refine wl_put 5 (.tmp 65) (.tmp 64) w.heap.size p3 .u8 5 ((((((List.replicate n 0).set 31 lb).set 63 le).set 95 lm).set p1 b).set p2 e) m (m : Int) ?_ ?_ rfl HIB.out.lt (b5.out ()) siz5 ?_); rfl; rfl))
        go_ret
        rw [← HR.out ()]
        refine ⟨_, rfl, ?_, HFR.out.setRow (.inl (Nat.le_refl _)) _ _ _⟩
        have hib := IB.setRow HIB.out.lt .u8 5 R
        have := NewD.of_ib (B := w.heap.size) hib n (by rw [HLen'.out ()]; exact Nat.le_refl _) (by unfold maxLen; have := HNb.out; omega) (Nat.le_refl _)
        rw [List.take_of_length_le (by rw [HLen'.out ()]; exact Nat.le_refl _)] at this
        exact this
      · have tx : (0 : Int) < (lb : Int) := by omega
        have ty : (0 : Int) < (le : Int) := by omega
        have tz : ¬ (0 : Int) < (lm : Int) := by omega
        have b0 : Hid (∀ _ : Unit, 31 < (List.replicate n 0).length) := fun _ => (by simp; have := HNb.out; omega)
        have b1 : Hid (∀ _ : Unit, 63 < ((List.replicate n 0).set 31 lb).length) := fun _ => (by simp; have := HNb.out; omega)
        have b2 : Hid (∀ _ : Unit, 95 < (((List.replicate n 0).set 31 lb).set 63 le).length) := fun _ => (by simp; have := HNb.out; omega)
        have b3 : Hid (∀ _ : Unit, p1 < ((((List.replicate n 0).set 31 lb).set 63 le).set 95 lm).length) := fun _ => (by simp; exact HNb.out.2.2.1 hc1)
        have b4 : Hid (∀ _ : Unit, p2 < (((((List.replicate n 0).set 31 lb).set 63 le).set 95 lm).set p1 b).length) := fun _ => (by simp; exact HNb.out.2.2.2.1 hc2)
        have HR : Hid (∀ _ : Unit, R = (((((List.replicate n 0).set 31 lb).set 63 le).set 95 lm).set p1 b).set p2 e) := fun _ => by rw [HM.out ()]; simp only [if_pos hc1, if_pos hc2, if_neg hc3]
        clear hc1 hc2 hc3 HM
        go_enter Sang.func12, Sang.ntmps12
        go_wp2_with (first
          | ((with_reducible refine wl_make 27 5 (.tmp 23) (.tmp 23) .u8 .i64 .i64 n ?_ ?_ i5 und33 hi5 hz5 hs5 ?_ ?_ ?_); rfl; rfl; (rw [hb5]; have := HNb.out; omega); (unfold maxLen; have := HNb.out; omega))
          | ((with_reducible refine wl_put1 5 (.tmp 27) (.tmp 26) w.heap.size 31 .u8 5 (List.replicate n 0) lb (lb : Int) ?_ ?_ rfl HIB.out (b0.out ()) siz5 ?_); rfl; rfl)
          | ((with_reducible refine wl_put 5 (.tmp 30) (.tmp 29) w.heap.size 63 .u8 5 ((List.replicate n 0).set 31 lb) le (le : Int) ?_ ?_ rfl HIB.out.lt (b1.out ()) siz5 ?_); rfl; rfl)
          | ((with_reducible refine wl_put 5 (.tmp 33) (.tmp 32) w.heap.size 95 .u8 5 (((List.replicate n 0).set 31 lb).set 63 le) lm (lm : Int) ?_ ?_ rfl HIB.out.lt (b2.out ()) siz5 ?_); rfl; rfl)
          | ((with_reducible refine wl_put 5 (.tmp 43) (.tmp 42) w.heap.size p1 .u8 5 ((((List.replicate n 0).set 31 lb).set 63 le).set 95 lm) b (b : Int) ?_ ?_ rfl HIB.out.lt (b3.out ()) siz5 ?_); rfl; rfl)
          | ((with_reducible refine wl_put 5 (.tmp 54) (.tmp 53) w.heap.size p2 .u8 5 (((((List.replicate n 0).set 31 lb).set 63 le).set 95 lm).set p1 b) e (e : Int) ?_ ?_ rfl HIB.out.lt (b4.out ()) siz5 ?_); rfl; rfl))
        go_ret
        rw [← HR.out ()]
        refine ⟨_, rfl, ?_, HFR.out.setRow (.inl (Nat.le_refl _)) _ _ _⟩
        have hib := IB.setRow HIB.out.lt .u8 5 R
        have := NewD.of_ib (B := w.heap.size) hib n (by rw [HLen'.out ()]; exact Nat.le_refl _) (by unfold maxLen; have := HNb.out; omega) (Nat.le_refl _)
        rw [List.take_of_length_le (by rw [HLen'.out ()]; exact Nat.le_refl _)] at this
        exact this
    · by_cases hc3 : 0 < lm
      · have tx : (0 : Int) < (lb : Int) := by omega
        have ty : ¬ (0 : Int) < (le : Int) := by omega
        have tz : (0 : Int) < (lm : Int) := by omega
        have b0 : Hid (∀ _ : Unit, 31 < (List.replicate n 0).length) := fun _ => (by simp; have := HNb.out; omega)
        have b1 : Hid (∀ _ : Unit, 63 < ((List.replicate n 0).set 31 lb).length) := fun _ => (by simp; have := HNb.out; omega)
        have b2 : Hid (∀ _ : Unit, 95 < (((List.replicate n 0).set 31 lb).set 63 le).length) := fun _ => (by simp; have := HNb.out; omega)
        have b3 : Hid (∀ _ : Unit, p1 < ((((List.replicate n 0).set 31 lb).set 63 le).set 95 lm).length) := fun _ => (by simp; exact HNb.out.2.2.1 hc1)
        have b4 : Hid (∀ _ : Unit, p3 < (((((List.replicate n 0).set 31 lb).set 63 le).set 95 lm).set p1 b).length) := fun _ => (by simp; exact HNb.out.2.2.2.2 hc3)
        have HR : Hid (∀ _ : Unit, R = (((((List.replicate n 0).set 31 lb).set 63 le).set 95 lm).set p1 b).set p3 m) := fun _ => by rw [HM.out ()]; simp only [if_pos hc1, if_neg hc2, if_pos hc3]
        clear hc1 hc2 hc3 HM
        go_enter Sang.func12, Sang.ntmps12
        go_wp2_with (first
          | ((with_reducible refine wl_make 27 5 (.tmp 23) (.tmp 23) .u8 .i64 .i64 n ?_ ?_ i5 und33 hi5 hz5 hs5 ?_ ?_ ?_); rfl; rfl; (rw [hb5]; have := HNb.out; omega); (unfold maxLen; have := HNb.out; omega))
          | ((with_reducible refine wl_put1 5 (.tmp 27) (.tmp 26) w.heap.size 31 .u8 5 (List.replicate n 0) lb (lb : Int) ?_ ?_ rfl HIB.out (b0.out ()) siz5 ?_); rfl; rfl)
          | ((with_reducible refine wl_put 5 (.tmp 30) (.tmp 29) w.heap.size 63 .u8 5 ((List.replicate n 0).set 31 lb) le (le : Int) ?_ ?_ rfl HIB.out.lt (b1.out ()) siz5 ?_); rfl; rfl)
          | ((with_reducible refine wl_put 5 (.tmp 33) (.tmp 32) w.heap.size 95 .u8 5 (((List.replicate n 0).set 31 lb).set 63 le) lm (lm : Int) ?_ ?_ rfl HIB.out.lt (b2.out ()) siz5 ?_); rfl; rfl)
          | ((with_reducible refine wl_put 5 (.tmp 43) (.tmp 42) w.heap.size p1 .u8 5 ((((List.replicate n 0).set 31 lb).set 63 le).set 95 lm) b (b : Int) ?_ ?_ rfl HIB.out.lt (b3.out ()) siz5 ?_); rfl; rfl)
          | ((with_reducible refine wl_put 5 (.tmp 65) (.tmp 64) w.heap.size p3 .u8 5 (((((List.replicate n 0).set 31 lb).set 63 le).set 95 lm).set p1 b) m (m : Int) ?_ ?_ rfl HIB.out.lt (b4.out ()) siz5 ?_); rfl; rfl))
        go_ret
        rw [← HR.out ()]
        refine ⟨_, rfl, ?_, HFR.out.setRow (.inl (Nat.le_refl _)) _ _ _⟩
        have hib := IB.setRow HIB.out.lt .u8 5 R
        have := NewD.of_ib (B := w.heap.size) hib n (by rw [HLen'.out ()]; exact Nat.le_refl _) (by unfold maxLen; have := HNb.out; omega) (Nat.le_refl _)
        rw [List.take_of_length_le (by rw [HLen'.out ()]; exact Nat.le_refl _)] at this
        exact this
      · have tx : (0 : Int) < (lb : Int) := by omega
        have ty : ¬ (0 : Int) < (le : Int) := by omega
        have tz : ¬ (0 : Int) < (lm : Int) := by omega
        have b0 : Hid (∀ _ : Unit, 31 < (List.replicate n 0).length) := fun _ => (by simp; have := HNb.out; omega)
        have b1 : Hid (∀ _ : Unit, 63 < ((List.replicate n 0).set 31 lb).length) := fun _ => (by simp; have := HNb.out; omega)
        have b2 : Hid (∀ _ : Unit, 95 < (((List.replicate n 0).set 31 lb).set 63 le).length) := fun _ => (by simp; have := HNb.out; omega)
        have b3 : Hid (∀ _ : Unit, p1 < ((((List.replicate n 0).set 31 lb).set 63 le).set 95 lm).length) := fun _ => (by simp; exact HNb.out.2.2.1 hc1)
        have HR : Hid (∀ _ : Unit, R = ((((List.replicate n 0).set 31 lb).set 63 le).set 95 lm).set p1 b) := fun _ => by rw [HM.out ()]; simp only [if_pos hc1, if_neg hc2, if_neg hc3]
        clear hc1 hc2 hc3 HM
        go_enter Sang.func12, Sang.ntmps12
        go_wp2_with (first
          | ((with_reducible refine wl_make 27 5 (.tmp 23) (.tmp 23) .u8 .i64 .i64 n ?_ ?_ i5 und33 hi5 hz5 hs5 ?_ ?_ ?_); rfl; rfl; (rw [hb5]; have := HNb.out; omega); (unfold maxLen; have := HNb.out; omega))
          | ((with_reducible refine wl_put1 5 (.tmp 27) (.tmp 26) w.heap.size 31 .u8 5 (List.replicate n 0) lb (lb : Int) ?_ ?_ rfl HIB.out (b0.out ()) siz5 ?_); rfl; rfl)
          | ((with_reducible refine wl_put 5 (.tmp 30) (.tmp 29) w.heap.size 63 .u8 5 ((List.replicate n 0).set 31 lb) le (le : Int) ?_ ?_ rfl HIB.out.lt (b1.out ()) siz5 ?_); rfl; rfl)
          | ((with_reducible refine wl_put 5 (.tmp 33) (.tmp 32) w.heap.size 95 .u8 5 (((List.replicate n 0).set 31 lb).set 63 le) lm (lm : Int) ?_ ?_ rfl HIB.out.lt (b2.out ()) siz5 ?_); rfl; rfl)
          | ((with_reducible refine wl_put 5 (.tmp 43) (.tmp 42) w.heap.size p1 .u8 5 ((((List.replicate n 0).set 31 lb).set 63 le).set 95 lm) b (b : Int) ?_ ?_ rfl HIB.out.lt (b3.out ()) siz5 ?_); rfl; rfl))
        go_ret
        rw [← HR.out ()]
        refine ⟨_, rfl, ?_, HFR.out.setRow (.inl (Nat.le_refl _)) _ _ _⟩
        have hib := IB.setRow HIB.out.lt .u8 5 R
        have := NewD.of_ib (B := w.heap.size) hib n (by rw [HLen'.out ()]; exact Nat.le_refl _) (by unfold maxLen; have := HNb.out; omega) (Nat.le_refl _)
        rw [List.take_of_length_le (by rw [HLen'.out ()]; exact Nat.le_refl _)] at this
        exact this
  · by_cases hc2 : 0 < le
    · by_cases hc3 : 0 < lm
      · have tx : ¬ (0 : Int) < (lb : Int) := by omega
        have ty : (0 : Int) < (le : Int) := by omega
        have tz : (0 : Int) < (lm : Int) := by omega
        have b0 : Hid (∀ _ : Unit, 31 < (List.replicate n 0).length) := fun _ => (by simp; have := HNb.out; omega)
        have b1 : Hid (∀ _ : Unit, 63 < ((List.replicate n 0).set 31 lb).length) := fun _ => (by simp; have := HNb.out; omega)
        have b2 : Hid (∀ _ : Unit, 95 < (((List.replicate n 0).set 31 lb).set 63 le).length) := fun _ => (by simp; have := HNb.out; omega)
        have b3 : Hid (∀ _ : Unit, p2 < ((((List.replicate n 0).set 31 lb).set 63 le).set 95 lm).length) := fun _ => (by simp; exact HNb.out.2.2.2.1 hc2)
        have b4 : Hid (∀ _ : Unit, p3 < (((((List.replicate n 0).set 31 lb).set 63 le).set 95 lm).set p2 e).length) := fun _ => (by simp; exact HNb.out.2.2.2.2 hc3)
        have HR : Hid (∀ _ : Unit, R = (((((List.replicate n 0).set 31 lb).set 63 le).set 95 lm).set p2 e).set p3 m) := fun _ => by rw [HM.out ()]; simp only [if_neg hc1, if_pos hc2, if_pos hc3]
        clear hc1 hc2 hc3 HM
        go_enter Sang.func12, Sang.ntmps12
        go_wp2_with (first
          | ((with_reducible refine wl_make 27 5 (.tmp 23) (.tmp 23) .u8 .i64 .i64 n ?_ ?_ i5 und33 hi5 hz5 hs5 ?_ ?_ ?_); rfl; rfl; (rw [hb5]; have := HNb.out; omega); (unfold maxLen; have := HNb.out; omega))
          | ((with_reducible refine wl_put1 5 (.tmp 27) (.tmp 26) w.heap.size 31 .u8 5 (List.replicate n 0) lb (lb : Int) ?_ ?_ rfl HIB.out (b0.out ()) siz5 ?_); rfl; rfl)
          | ((with_reducible refine wl_put 5 (.tmp 30) (.tmp 29) w.heap.size 63 .u8 5 ((List.replicate n 0).set 31 lb) le (le : Int) ?_ ?_ rfl HIB.out.lt (b1.out ()) siz5 ?_); rfl; rfl)
          | ((with_reducible refine wl_put 5 (.tmp 33) (.tmp 32) w.heap.size 95 .u8 5 (((List.replicate n 0).set 31 lb).set 63 le) lm (lm : Int) ?_ ?_ rfl HIB.out.lt (b2.out ()) siz5 ?_); rfl; rfl)
          | ((with_reducible refine wl_put 5 (.tmp 54) (.tmp 53) w.heap.size p2 .u8 5 ((((List.replicate n 0).set 31 lb).set 63 le).set 95 lm) e (e : Int) ?_ ?_ rfl HIB.out.lt (b3.out ()) siz5 ?_); rfl; rfl)
          | ((with_reducible refine wl_put 5 (.tmp 65) (.tmp 64) w.heap.size p3 .u8 5 (((((List.replicate n 0).set 31 lb).set 63 le).set 95 lm).set p2 e) m (m : Int) ?_ ?_ rfl HIB.out.lt (b4.out ()) siz5 ?_); rfl; rfl))
        go_ret
        rw [← HR.out ()]
        refine ⟨_, rfl, ?_, HFR.out.setRow (.inl (Nat.le_refl _)) _ _ _⟩
        have hib := IB.setRow HIB.out.lt .u8 5 R
        have := NewD.of_ib (B := w.heap.size) hib n (by rw [HLen'.out ()]; exact Nat.le_refl _) (by unfold maxLen; have := HNb.out; omega) (Nat.le_refl _)
        rw [List.take_of_length_le (by rw [HLen'.out ()]; exact Nat.le_refl _)] at this
        exact this
      · have tx : ¬ (0 : Int) < (lb : Int) := by omega
        have ty : (0 : Int) < (le : Int) := by omega
        have tz : ¬ (0 : Int) < (lm : Int) := by omega
        have b0 : Hid (∀ _ : Unit, 31 < (List.replicate n 0).length) := fun _ => (by simp; have := HNb.out; omega)
        have b1 : Hid (∀ _ : Unit, 63 < ((List.replicate n 0).set 31 lb).length) := fun _ => (by simp; have := HNb.out; omega)
        have b2 : Hid (∀ _ : Unit, 95 < (((List.replicate n 0).set 31 lb).set 63 le).length) := fun _ => (by simp; have := HNb.out; omega)
        have b3 : Hid (∀ _ : Unit, p2 < ((((List.replicate n 0).set 31 lb).set 63 le).set 95 lm).length) := fun _ => (by simp; exact HNb.out.2.2.2.1 hc2)
        have HR : Hid (∀ _ : Unit, R = ((((List.replicate n 0).set 31 lb).set 63 le).set 95 lm).set p2 e) := fun _ => by rw [HM.out ()]; simp only [if_neg hc1, if_pos hc2, if_neg hc3]
        clear hc1 hc2 hc3 HM
        go_enter Sang.func12, Sang.ntmps12
        go_wp2_with (first
          | ((with_reducible refine wl_make 27 5 (.tmp 23) (.tmp 23) .u8 .i64 .i64 n ?_ ?_ i5 und33 hi5 hz5 hs5 ?_ ?_ ?_); rfl; rfl; (rw [hb5]; have := HNb.out; omega); (unfold maxLen; have := HNb.out; omega))
          | ((with_reducible refine wl_put1 5 (.tmp 27) (.tmp 26) w.heap.size 31 .u8 5 (List.replicate n 0) lb (lb : Int) ?_ ?_ rfl HIB.out (b0.out ()) siz5 ?_); rfl; rfl)
          | ((with_reducible refine wl_put 5 (.tmp 30) (.tmp 29) w.heap.size 63 .u8 5 ((List.replicate n 0).set 31 lb) le (le : Int) ?_ ?_ rfl HIB.out.lt (b1.out ()) siz5 ?_); rfl; rfl)
          | ((with_reducible refine wl_put 5 (.tmp 33) (.tmp 32) w.heap.size 95 .u8 5 (((List.replicate n 0).set 31 lb).set 63 le) lm (lm : Int) ?_ ?_ rfl HIB.out.lt (b2.out ()) siz5 ?_); rfl; rfl)
          | ((with_reducible refine wl_put 5 (.tmp 54) (.tmp 53) w.heap.size p2 .u8 5 ((((List.replicate n 0).set 31 lb).set 63 le).set 95 lm) e (e : Int) ?_ ?_ rfl HIB.out.lt (b3.out ()) siz5 ?_); rfl; rfl))
        go_ret
        rw [← HR.out ()]
        refine ⟨_, rfl, ?_, HFR.out.setRow (.inl (Nat.le_refl _)) _ _ _⟩
        have hib := IB.setRow HIB.out.lt .u8 5 R
        have := NewD.of_ib (B := w.heap.size) hib n (by rw [HLen'.out ()]; exact Nat.le_refl _) (by unfold maxLen; have := HNb.out; omega) (Nat.le_refl _)
        rw [List.take_of_length_le (by rw [HLen'.out ()]; exact Nat.le_refl _)] at this
        exact this
    · by_cases hc3 : 0 < lm
      · have tx : ¬ (0 : Int) < (lb : Int) := by omega
        have ty : ¬ (0 : Int) < (le : Int) := by omega
        have tz : (0 : Int) < (lm : Int) := by omega
        have b0 : Hid (∀ _ : Unit, 31 < (List.replicate n 0).length) := fun _ => (by simp; have := HNb.out; omega)
        have b1 : Hid (∀ _ : Unit, 63 < ((List.replicate n 0).set 31 lb).length) := fun _ => (by simp; have := HNb.out; omega)
        have b2 : Hid (∀ _ : Unit, 95 < (((List.replicate n 0).set 31 lb).set 63 le).length) := fun _ => (by simp; have := HNb.out; omega)
        have b3 : Hid (∀ _ : Unit, p3 < ((((List.replicate n 0).set 31 lb).set 63 le).set 95 lm).length) := fun _ => (by simp; exact HNb.out.2.2.2.2 hc3)
        have HR : Hid (∀ _ : Unit, R = ((((List.replicate n 0).set 31 lb).set 63 le).set 95 lm).set p3 m) := fun _ => by rw [HM.out ()]; simp only [if_neg hc1, if_neg hc2, if_pos hc3]
        clear hc1 hc2 hc3 HM
        go_enter Sang.func12, Sang.ntmps12
        go_wp2_with (first
          | ((with_reducible refine wl_make 27 5 (.tmp 23) (.tmp 23) .u8 .i64 .i64 n ?_ ?_ i5 und33 hi5 hz5 hs5 ?_ ?_ ?_); rfl; rfl; (rw [hb5]; have := HNb.out; omega); (unfold maxLen; have := HNb.out; omega))
          | ((with_reducible refine wl_put1 5 (.tmp 27) (.tmp 26) w.heap.size 31 .u8 5 (List.replicate n 0) lb (lb : Int) ?_ ?_ rfl HIB.out (b0.out ()) siz5 ?_); rfl; rfl)
          | ((with_reducible refine wl_put 5 (.tmp 30) (.tmp 29) w.heap.size 63 .u8 5 ((List.replicate n 0).set 31 lb) le (le : Int) ?_ ?_ rfl HIB.out.lt (b1.out ()) siz5 ?_); rfl; rfl)
          | ((with_reducible refine wl_put 5 (.tmp 33) (.tmp 32) w.heap.size 95 .u8 5 (((List.replicate n 0).set 31 lb).set 63 le) lm (lm : Int) ?_ ?_ rfl HIB.out.lt (b2.out ()) siz5 ?_); rfl; rfl)
          | ((with_reducible refine wl_put 5 (.tmp 65) (.tmp 64) w.heap.size p3 .u8 5 ((((List.replicate n 0).set 31 lb).set 63 le).set 95 lm) m (m : Int) ?_ ?_ rfl HIB.out.lt (b3.out ()) siz5 ?_); rfl; rfl))
        go_ret
        rw [← HR.out ()]
        refine ⟨_, rfl, ?_, HFR.out.setRow (.inl (Nat.le_refl _)) _ _ _⟩
        have hib := IB.setRow HIB.out.lt .u8 5 R
        have := NewD.of_ib (B := w.heap.size) hib n (by rw [HLen'.out ()]; exact Nat.le_refl _) (by unfold maxLen; have := HNb.out; omega) (Nat.le_refl _)
        rw [List.take_of_length_le (by rw [HLen'.out ()]; exact Nat.le_refl _)] at this
        exact this
      · have tx : ¬ (0 : Int) < (lb : Int) := by omega
        have ty : ¬ (0 : Int) < (le : Int) := by omega
        have tz : ¬ (0 : Int) < (lm : Int) := by omega
        have b0 : Hid (∀ _ : Unit, 31 < (List.replicate n 0).length) := fun _ => (by simp; have := HNb.out; omega)
        have b1 : Hid (∀ _ : Unit, 63 < ((List.replicate n 0).set 31 lb).length) := fun _ => (by simp; have := HNb.out; omega)
        have b2 : Hid (∀ _ : Unit, 95 < (((List.replicate n 0).set 31 lb).set 63 le).length) := fun _ => (by simp; have := HNb.out; omega)
        have HR : Hid (∀ _ : Unit, R = (((List.replicate n 0).set 31 lb).set 63 le).set 95 lm) := fun _ => by rw [HM.out ()]; simp only [if_neg hc1, if_neg hc2, if_neg hc3]
        clear hc1 hc2 hc3 HM
        go_enter Sang.func12, Sang.ntmps12
        go_wp2_with (first
          | ((with_reducible refine wl_make 27 5 (.tmp 23) (.tmp 23) .u8 .i64 .i64 n ?_ ?_ i5 und33 hi5 hz5 hs5 ?_ ?_ ?_); rfl; rfl; (rw [hb5]; have := HNb.out; omega); (unfold maxLen; have := HNb.out; omega))
          | ((with_reducible refine wl_put1 5 (.tmp 27) (.tmp 26) w.heap.size 31 .u8 5 (List.replicate n 0) lb (lb : Int) ?_ ?_ rfl HIB.out (b0.out ()) siz5 ?_); rfl; rfl)
          | ((with_reducible refine wl_put 5 (.tmp 30) (.tmp 29) w.heap.size 63 .u8 5 ((List.replicate n 0).set 31 lb) le (le : Int) ?_ ?_ rfl HIB.out.lt (b1.out ()) siz5 ?_); rfl; rfl)
          | ((with_reducible refine wl_put 5 (.tmp 33) (.tmp 32) w.heap.size 95 .u8 5 (((List.replicate n 0).set 31 lb).set 63 le) lm (lm : Int) ?_ ?_ rfl HIB.out.lt (b2.out ()) siz5 ?_); rfl; rfl))
        go_ret
        rw [← HR.out ()]
        refine ⟨_, rfl, ?_, HFR.out.setRow (.inl (Nat.le_refl _)) _ _ _⟩
        have hib := IB.setRow HIB.out.lt .u8 5 R
        have := NewD.of_ib (B := w.heap.size) hib n (by rw [HLen'.out ()]; exact Nat.le_refl _) (by unfold maxLen; have := HNb.out; omega) (Nat.le_refl _)
        rw [List.take_of_length_le (by rw [HLen'.out ()]; exact Nat.le_refl _)] at this
        exact this
end Go.Proofs.YgcsanGreat
