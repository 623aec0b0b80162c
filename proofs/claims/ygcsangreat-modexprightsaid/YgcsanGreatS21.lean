/-
  Package law: ModExpRight.
-/
import Derived.Test.YgcsanGreatS20
namespace Go.Proofs.YgcsanGreat
open Go.RowKit
set_option linter.unusedSimpArgs false
set_option linter.unusedVariables false
attribute [-go_sem] loadVar storeVar Instr.build Instr.fill Instr.buildSlice Builtin.append_


theorem txV_to5 : layV (txV (adNo 1) (List.replicate 32 0) (.slice none 0 0)) 20 (byV (adNo 5)) = txV (adNo 5) (List.replicate 32 0) (.slice none 0 0) := by kernel_rfl
theorem txV_set107 (data : Value) : (txV (adNo 5) (List.replicate 32 0) (.slice none 0 0)).set 107 data = txM data := by kernel_rfl

set_option maxRecDepth 10000 in
set_option maxHeartbeats 4000000 in
theorem modExpRight_any (lb0 le0 lm0 b e m : Nat) (w : World) (h0 : lb0 < 256) (h1 : le0 < 256) (h2 : lm0 < 256) (h3 : b < 256) (h4 : e < 256) (h5 : m < 256) :
    Calls Sang.prog 3 #[.int .u8 (lb0 : Int), .int .u8 (le0 : Int), .int .u8 (lm0 : Int), .int .u8 (b : Int), .int .u8 (e : Int), .int .u8 (m : Int)] w fun e' w' => e' = .returned (.bool true) ∧ Fr w.heap.size no w w' := by
  obtain ⟨lb, Hlb⟩ : ∃ lb : Nat, Hid (∀ _ : Unit, lb0 % 70 = lb) := ⟨_, fun _ => rfl⟩
  obtain ⟨le, Hle⟩ : ∃ le : Nat, Hid (∀ _ : Unit, le0 % 70 = le) := ⟨_, fun _ => rfl⟩
  obtain ⟨lm, Hlm⟩ : ∃ lm : Nat, Hid (∀ _ : Unit, lm0 % 70 = lm) := ⟨_, fun _ => rfl⟩
  have e0 : (lb0 : Int) % 70 = (lb : Int) := by rw [← Hlb.out ()]; omega
  have e1 : (le0 : Int) % 70 = (le : Int) := by rw [← Hle.out ()]; omega
  have e2 : (lm0 : Int) % 70 = (lm : Int) := by rw [← Hlm.out ()]; omega
  have t0 : (lb0 : Int).tmod 70 = (lb : Int) := by rw [Int.tmod_eq_emod_of_nonneg (by omega)]; exact e0
  have t1 : (le0 : Int).tmod 70 = (le : Int) := by rw [Int.tmod_eq_emod_of_nonneg (by omega)]; exact e1
  have t2 : (lm0 : Int).tmod 70 = (lm : Int) := by rw [Int.tmod_eq_emod_of_nonneg (by omega)]; exact e2
  have g0 : (lb : Int) ≤ 69 := by omega
  have g1 : (le : Int) ≤ 69 := by omega
  have g2 : (lm : Int) ≤ 69 := by omega
  have i0 : (0 : Int) ≤ (lb0 : Int) := by omega
  have i1 : (0 : Int) ≤ (le0 : Int) := by omega
  have i2 : (0 : Int) ≤ (lm0 : Int) := by omega
  have HB : Hid (lb < 70 ∧ le < 70 ∧ lm < 70 ∧ b < 256 ∧ e < 256 ∧ m < 256) := ⟨by omega, by omega, by omega, h3, h4, h5⟩
  have HA1 : Hid (∀ w, Calls Sang.prog 10 #[] w fun e w' => e = .returned (.agg (txV (adNo 1) (List.replicate 32 0) (.slice none 0 0)).toArray) ∧ Fr w.heap.size no w w') := toA1_any
  have HA5 : Hid (∀ w, Calls Sang.prog 11 #[.int .u8 5] w fun e w' => e = .returned (.agg (byV (adNo 5)).toArray) ∧ Fr w.heap.size no w w') := addrNo_any 5
  have lT := txV_length (adNo 1) (List.replicate 32 0) (.slice none 0 0) rfl (by simp)
  have fT := txV_flat (adNo 1) (List.replicate 32 0) (.slice none 0 0) rfl
  have lT5 := txV_length (adNo 5) (List.replicate 32 0) (.slice none 0 0) rfl (by simp)
  have hlay := txV_to5
  have hset := txV_set107
  have c107 : (txV (adNo 5) (List.replicate 32 0) (.slice none 0 0))[107]? = some (.slice none 0 0) := by kernel_rfl
  have fB := byV_flat (adNo 5)
  have lB : (byV (adNo 5)).length = 20 := rfl
  generalize txV (adNo 1) (List.replicate 32 0) (.slice none 0 0) = T1 at *
  generalize txV (adNo 5) (List.replicate 32 0) (.slice none 0 0) = T5 at *
  obtain ⟨B, HBe⟩ : ∃ B, Hid (∀ _ : Unit, byV (adNo 5) = B) := ⟨_, fun _ => rfl⟩
  rw [HBe.out ()] at hlay fB lB HA5
  clear h0 h1 h2 h3 h4 h5
  go_enter Sang.func3, Sang.ntmps3
  go_wp2_with fail
  refine (HA1.out w).mono ?_
  rintro e' w1 ⟨rfl, hf⟩
  have hT := VB.new w1 30 T1
  have hjw : w.heap.size ≤ w1.heap.size := hf.size
  replace hf := hf.alloc hf.size (.cells T1.toArray 30)
  go_wp2_with fail
  obtain ⟨j, hj⟩ : ∃ j, j = w1.heap.size := ⟨_, rfl⟩
  generalize w1.alloc (.cells T1.toArray 30) = w2 at hT hf ⊢
  rw [← hj] at hT hjw ⊢
  clear hj
  refine (HA5.out w2).mono ?_
  rintro e' w3 ⟨rfl, hfx⟩
  replace hT := hT.fr hfx hT.lt (fun x => x)
  replace hf := hf.step hfx hf.size (fun _ _ x => x)
  clear hfx
  have q := hT.q
  go_wp2_with fail
  replace hT := VB.setV hT.lt 30 T5
  replace hf := hf.setV (b := j) (.inl hjw) 30 T5
  generalize setV w3 j 30 T5 = w4 at hT hf ⊢
  clear q
  refine (modExpInput_any lb le lm b e m w4 HB.out.1 HB.out.2.1 HB.out.2.2.1 HB.out.2.2.2.1 HB.out.2.2.2.2.1 HB.out.2.2.2.2.2).mono ?_
  rintro e' w5 ⟨data, rfl, hD, hfx⟩
  replace hT := hT.fr hfx hT.lt (fun x => x)
  replace hf := hf.step hfx hf.size (fun _ _ x => x)
  clear hfx
  have k := hT.cell 107 c107
  have z := hT.unfrozen 107
  have od := hD.one
  go_wp2_with fail
  have hT2 := hT.set (i := 107) (by omega) data
  rw [hset] at hT2
  replace hf := hf.setCell (p := ⟨j, 107, none⟩) (.inl hjw) data
  have hD2 : Sl (w5.setCell ⟨j, 107, none⟩ data) .u8 data (mxIn lb le lm b e m) := by
    obtain ⟨a, cp, rfl, p1, p2, p3⟩ := hD
    refine ⟨a, cp, rfl, p1, p2, ?_⟩
    rcases p3 with p3 | ⟨b', off, rfl, p3⟩
    · exact .inl p3
    · refine .inr ⟨b', off, rfl, fun i hi => ?_⟩
      rw [← p3 i hi]
      refine World.cell?_setCell_other _ _ _ _ ?_
      intro ee
      have e1 : off + i = 107 := by simp at ee; omega
      have e2 : b' = j := by simp at ee; omega
      have := p3 i hi
      rw [e1, e2, k] at this
      cases this
  clear k z hT hD
  generalize w5.setCell ⟨j, 107, none⟩ data = w6 at hT2 hD2 hf ⊢
  have HI := intr_mx lb le lm b e m HB.out.1 HB.out.2.1 HB.out.2.2.1
  have hlen := mxIn_length lb le lm b e m
  have HAp : Hid (∀ (O : List Nat) (s X U d : Nat) (g cap : Nat) (LA : List Value) (w : World), VB w g 98 LA → 55 ≤ LA.length → subV LA 0 55 = oaV → Sl w .u8 data (mxIn lb le lm b e m) → RunP (mxIn lb le lm b e m) O s X U d → Calls Sang.prog 14 #[.slice (some ⟨g, 0, none⟩) 1 cap, .agg (txM data).toArray] w fun e w' => (∃ R out, e = .returned (.agg R.toArray) ∧ R.length = 25 ∧ Flat R ∧ R[0]? = some (.int .u8 0) ∧ R[1]? = some (.int .u8 (s : Nat)) ∧ R[2]? = some (.int .u64 (U : Nat)) ∧ R[3]? = some out ∧ Sl w' .u8 out O ∧ Nw w.heap.size out) ∧ Fr w.heap.size no w w') := fun O s X U d g cap LA w q1 q2 q3 q4 q5 => applied_any g cap LA data (mxIn lb le lm b e m) O s X U d w q1 q2 q3 q4 (by have := HB.out; omega) (by omega) (by omega) q5
  have HSt : Hid (∀ w, Calls Sang.prog 15 #[.slice none 0 0] w fun e w' => ∃ g cap LA, e = .returned (.slice (some ⟨g, 0, none⟩) 1 cap) ∧ VB w' g 98 LA ∧ 55 ≤ LA.length ∧ subV LA 0 55 = oaV ∧ w.heap.size ≤ g ∧ Fr w.heap.size no w w') := stage_nil
  have lM := txM_length data
  have aM := txM_all data
  have hfd : ∃ s X U d O, Hid (RunP (mxIn lb le lm b e m) O s X U d ∧ ∀ (R : List Value) (out : Value) (w : World), R.length = 25 → R[0]? = some (.int .u8 0) → R[1]? = some (.int .u8 (s : Nat)) → R[2]? = some (.int .u64 (U : Nat)) → R[3]? = some out → Sl w .u8 out O → Sl w .u8 data (mxIn lb le lm b e m) → Calls Sang.prog 13 #[.int .u8 (lb : Int), .int .u8 (le : Int), .int .u8 (lm : Int), .int .u8 (b : Int), .int .u8 (e : Int), .int .u8 (m : Int), .agg (txM data).toArray, .agg R.toArray] w fun e' w' => e' = .returned (.bool true) ∧ Fr w.heap.size no w w') := by
    obtain ⟨b0, b1, b2, b3, b4, b5⟩ := HB.out
    by_cases hok : lb ≤ 64 ∧ le ≤ 64 ∧ lm ≤ 64
    · obtain ⟨o0, o1, o2⟩ := hok
      exact ⟨0, _, _, _, _, runP_ok lb le lm b e m o0 o1 o2 b3 b4 b5, fun R out w l1 r0 r1 r2 r3 ho hd => mrHolds_ok lb le lm b e m (adNo 5) (List.replicate 32 0) (mxIn lb le lm b e m) data out R w rfl (by simp) o0 o1 o2 b3 b4 b5 hd (by omega) _ rfl (Nat.le_trans (cost_mx lb le lm b e m o0 o1 o2 b4) (by decide)) r0 r1 r2 r3 ho⟩
    · exact ⟨2, 0, 200000, 3, [], runP_no lb le lm b e m b0 b1 b2 b3 b4 b5 hok, fun R out w l1 r0 r1 r2 r3 ho hd => mrHolds_no lb le lm b e m (adNo 5) (List.replicate 32 0) data out 0 0 R w rfl (by simp) hok r0 r1 r2 r3 ho⟩
  obtain ⟨s, X, U, d, O, HRun⟩ := hfd
  generalize txM data = T at *
  clear HI hlen
  generalize mxIn lb le lm b e m = D at *
  have hSall : ∀ w', Fr w6.heap.size no w6 w' → (Fr w6.heap.size no w6 w' ∧ (loadVar 30 ⟨j, 0, none⟩).run Sang.prog w' = .ok (.agg T.toArray) w') := fun w' f => by
    have hT' := hT2.fr f hT2.lt (fun x => x)
    have q := hT'.q
    refine ⟨f, ?_⟩
    rw [ld30 w' j 0 q.2.2 (by rw [q.1, lM]; decide), q.1, aM]
  have hx0 := hSall w6.drew (Fr.refl _ _ _).drew
  go_region_held3 (fun w' => Fr w6.heap.size no w6 w' ∧ (loadVar 30 ⟨j, 0, none⟩).run Sang.prog w' = .ok (.agg T.toArray) w')
    (first | exact hx0 | exact hSall _ hfz | exact hSall _ hfy | exact hSall _ hfx)
    (first
      | (go_at_call 15; (with_reducible refine (HSt.out w6.drew).mono ?_); rintro e' w7 ⟨g, cap, LA, rfl, a1, a2, a3, a4, hf7⟩; have hfx : Fr w6.heap.size no w6 w7 := (Fr.refl _ _ _).drew.step hf7 (Nat.le_refl _) (fun _ _ x => x); have hD7 := hD2.fr hfx)
      | (go_at_call 14; (with_reducible refine (HAp.out O s X U d g cap LA w7 a1 a2 a3 hD7 HRun.out.1).mono ?_); rintro e' w8 ⟨⟨R, out, rfl, l1, l2, l3, l4, l5, l6, l7, l7n⟩, hf8⟩; have hfy := hfx.step hf8 hfx.size (fun _ _ x => x); have hD8 := hD7.fr hf8)
      | (go_at_call 13; (with_reducible refine (HRun.out.2 R out w8 l1 l3 l4 l5 l6 l7 hD8).mono ?_); rintro e' w9 ⟨rfl, hf9⟩; have hfz := hfy.step hf9 hfy.size (fun _ _ x => x)))
  go_wp2_with fail
  go_ret
  exact ⟨rfl, hf.step hfz hf.size (fun _ _ x => x)⟩
end Go.Proofs.YgcsanGreat
