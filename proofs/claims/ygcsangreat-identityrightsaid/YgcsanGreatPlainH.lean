/-
  The law's input, and what the precompiled contract makes of it, in plain numbers.
-/
import Derived.Test.YgcsanGreatMxIn
namespace Go.Proofs.YgcsanGreat
open Go.RowKit
set_option linter.unusedSimpArgs false
set_option linter.unusedVariables false

theorem getD_set' (L : List Nat) (i v j : Nat) (hi : i < L.length) : (L.set i v).getD j 0 = if j = i then v else L.getD j 0 := by
  simp only [List.getD, List.getElem?_set]
  by_cases h : i = j
  · subst h
    simp [hi]
  · rw [if_neg h, if_neg (fun e => h e.symm)]

theorem mxIn_get (lb le lm b e m j : Nat) : (mxIn lb le lm b e m).getD j 0 =
    if 0 < lm ∧ j = 95 + lb + le + lm then m else if 0 < le ∧ j = 95 + lb + le then e else if 0 < lb ∧ j = 95 + lb then b else
      if j = 95 then lm else if j = 63 then le else if j = 31 then lb else 0 := by
  have base : ((((List.replicate (96 + lb + le + lm) 0).set 31 lb).set 63 le).set 95 lm).getD j 0 = if j = 95 then lm else if j = 63 then le else if j = 31 then lb else 0 := by
    rw [getD_set' _ _ _ _ (by simp <;> omega), getD_set' _ _ _ _ (by simp <;> omega), getD_set' _ _ _ _ (by simp <;> omega), show (List.replicate (96 + lb + le + lm) 0).getD j 0 = 0 by by_cases h : j < 96 + lb + le + lm <;> simp [List.getD, List.getElem?_replicate, h]]
  unfold mxIn
  simp only []
  by_cases h3 : 0 < lm <;> by_cases h2 : 0 < le <;> by_cases h1 : 0 < lb <;> simp only [h1, h2, h3, if_true, if_false, true_and, false_and]
  · rw [getD_set' _ _ _ _ (by simp <;> omega), getD_set' _ _ _ _ (by simp <;> omega), getD_set' _ _ _ _ (by simp <;> omega), base]
  · rw [getD_set' _ _ _ _ (by simp <;> omega), getD_set' _ _ _ _ (by simp <;> omega), base]
  · rw [getD_set' _ _ _ _ (by simp <;> omega), getD_set' _ _ _ _ (by simp <;> omega), base]
  · rw [getD_set' _ _ _ _ (by simp <;> omega), base]
  · rw [getD_set' _ _ _ _ (by simp <;> omega), getD_set' _ _ _ _ (by simp <;> omega), base]
  · rw [getD_set' _ _ _ _ (by simp <;> omega), base]
  · rw [getD_set' _ _ _ _ (by simp <;> omega), base]
  · exact base

/-- a number of which all bytes but the last are zero -/
theorem be_last (I : List Nat) (off n x : Nat) (hz : ∀ i, i + 1 < n → I.getD (off + i) 0 = 0) (hx : n ≠ 0 → I.getD (off + (n - 1)) 0 = x) : be (partB I off n) = if n = 0 then 0 else x := by
  by_cases h0 : n = 0
  · subst h0
    rfl
  · rw [if_neg h0]
    obtain ⟨k, rfl⟩ : ∃ k, n = k + 1 := ⟨n - 1, by omega⟩
    have e1 : partB I off (k + 1) = partB I off k ++ [x] := by
      unfold partB
      rw [List.range_succ, List.map_append]
      simp only [List.map_cons, List.map_nil]
      rw [← hx (by omega)]
      rfl
    rw [e1, be_snoc]
    have e2 : be (partB I off k) = 0 := by
      unfold be
      refine val_zeros (fun d hd => ?_)
      rw [List.mem_reverse] at hd
      obtain ⟨i, hi, rfl⟩ := List.mem_map.1 hd
      exact hz i (by have := List.mem_range.1 hi; omega)
    rw [e2]
    omega

theorem mx_len (lb le lm b e m : Nat) : lenI (mxIn lb le lm b e m) 0 = lb ∧ lenI (mxIn lb le lm b e m) 1 = le ∧ lenI (mxIn lb le lm b e m) 2 = lm := by
  refine ⟨?_, ?_, ?_⟩
  · have := be_last (mxIn lb le lm b e m) (32 * 0) 32 lb (fun i hi => by rw [mxIn_get]; repeat (rw [if_neg (by omega)])) (fun _ => by rw [mxIn_get]; repeat (first | rw [if_pos (by omega)] | rw [if_neg (by omega)]))
    exact this
  · have := be_last (mxIn lb le lm b e m) (32 * 1) 32 le (fun i hi => by rw [mxIn_get]; repeat (rw [if_neg (by omega)])) (fun _ => by rw [mxIn_get]; repeat (first | rw [if_pos (by omega)] | rw [if_neg (by omega)]))
    exact this
  · have := be_last (mxIn lb le lm b e m) (32 * 2) 32 lm (fun i hi => by rw [mxIn_get]; repeat (rw [if_neg (by omega)])) (fun _ => by rw [mxIn_get]; repeat (first | rw [if_pos (by omega)] | rw [if_neg (by omega)]))
    exact this

theorem mx_ops (lb le lm b e m : Nat) : baseN (mxIn lb le lm b e m) = (if lb = 0 then 0 else b) ∧ expoN (mxIn lb le lm b e m) = (if le = 0 then 0 else e) ∧ modN (mxIn lb le lm b e m) = (if lm = 0 then 0 else m) := by
  obtain ⟨h0, h1, h2⟩ := mx_len lb le lm b e m
  unfold baseN expoN modN
  rw [h0, h1, h2]
  refine ⟨?_, ?_, ?_⟩
  · exact be_last _ 96 lb b (fun i hi => by rw [mxIn_get]; repeat (rw [if_neg (by omega)])) (fun h => by rw [mxIn_get]; repeat (first | rw [if_pos (by omega)] | rw [if_neg (by omega)]))
  · exact be_last _ (96 + lb) le e (fun i hi => by rw [mxIn_get]; repeat (rw [if_neg (by omega)])) (fun h => by rw [mxIn_get]; repeat (first | rw [if_pos (by omega)] | rw [if_neg (by omega)]))
  · exact be_last _ (96 + lb + le) lm m (fun i hi => by rw [mxIn_get]; repeat (rw [if_neg (by omega)])) (fun h => by rw [mxIn_get]; repeat (first | rw [if_pos (by omega)] | rw [if_neg (by omega)]))

theorem mx_head (lb le lm b e m : Nat) : headN (mxIn lb le lm b e m) = if 32 < le then 0 else if le = 0 then 0 else e := by
  obtain ⟨h0, h1, h2⟩ := mx_len lb le lm b e m
  unfold headN
  rw [h0, h1]
  by_cases h : 32 < le
  · rw [if_pos h, show min le 32 = 32 by omega]
    have := be_last (mxIn lb le lm b e m) (96 + lb) 32 0 (fun i hi => by rw [mxIn_get]; repeat (rw [if_neg (by omega)])) (fun _ => by rw [mxIn_get]; repeat (rw [if_neg (by omega)]))
    rw [this]
    rfl
  · rw [if_neg h, show min le 32 = le by omega]
    exact be_last _ (96 + lb) le e (fun i hi => by rw [mxIn_get]; repeat (rw [if_neg (by omega)])) (fun h => by rw [mxIn_get]; repeat (first | rw [if_pos (by omega)] | rw [if_neg (by omega)]))

theorem mxIn_dg (lb le lm b e m : Nat) (h0 : lb < 256) (h1 : le < 256) (h2 : lm < 256) (h3 : b < 256) (h4 : e < 256) (h5 : m < 256) : Dg 256 (mxIn lb le lm b e m) := by
  have hr := Dg.replicate (B := 256) (by decide) (96 + lb + le + lm)
  have hL := ((hr.set 31 lb h0).set 63 le h1).set 95 lm h2
  unfold mxIn
  simp only []
  split <;> split <;> split <;> first
    | exact hL
    | exact hL.set _ _ h3
    | exact hL.set _ _ h4
    | exact hL.set _ _ h5
    | exact (hL.set _ _ h3).set _ _ h4
    | exact (hL.set _ _ h3).set _ _ h5
    | exact (hL.set _ _ h4).set _ _ h5
    | exact ((hL.set _ _ h3).set _ _ h4).set _ _ h5

/-- one digit, and zeros above it -/
theorem limbs_one (k P : Nat) (h : P < 256) : limbs 256 (k + 1) P = P :: List.replicate k 0 := by
  rw [limbs, Nat.mod_eq_of_lt h, Nat.div_eq_of_lt h, limbs_zero]

/-- the output, in the law's words -/
theorem mx_out (lb le lm b e m : Nat) (hm : m < 256) : outN (mxIn lb le lm b e m) =
    if lm = 0 then [] else List.replicate (lm - 1) 0 ++ [powF (if lb = 0 then 0 else b) (if le = 0 then 0 else e) m] := by
  obtain ⟨h0, h1, h2⟩ := mx_len lb le lm b e m
  obtain ⟨g0, g1, g2⟩ := mx_ops lb le lm b e m
  unfold outN
  rw [h2, g0, g1, g2]
  by_cases h : lm = 0
  · rw [if_pos h, h]
    rfl
  · rw [if_neg h, if_neg h]
    obtain ⟨k, rfl⟩ : ∃ k, lm = k + 1 := ⟨lm - 1, by omega⟩
    have hP : powF (if lb = 0 then 0 else b) (if le = 0 then 0 else e) m < 256 := by
      by_cases hz : m = 0
      · rw [hz, powF_none]; decide
      · exact Nat.lt_trans (powF_lt _ _ hz) hm
    rw [limbs_one k _ hP, List.reverse_cons, List.reverse_replicate]
    rfl
end Go.Proofs.YgcsanGreat
