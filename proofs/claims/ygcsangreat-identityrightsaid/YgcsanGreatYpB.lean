/-
  Package yp: lengths.
-/
import Derived.Test.YgcsanGreatPlainG
import Derived.Test.YgcsanGreatYpA
import Derived.Test.YgcsanGreatPow
namespace Go.Proofs.YgcsanGreat
open Go.RowKit
set_option linter.unusedSimpArgs false
set_option linter.unusedVariables false

theorem fromBE_Sl (v : Value) (l : List Nat) (w : World) (h : Sl w .u8 v l) (hd : Dg 256 l) (hsm : l.length ≤ 16777216) :
    Calls Sang.prog 83 #[v] w fun e w' => ∃ v', e = .returned v' ∧ Sl w' .u8 v' (digs (be l)) ∧ Fr w.heap.size no w w' := fromBE_any v l w h hd hsm

set_option maxRecDepth 10000 in
set_option maxHeartbeats 1000000 in
theorem ypLengths_any (v : Value) (I : List Nat) (w : World) (h : Sl w .u8 v I) (hd : Dg 256 I) (sI : I.length ≤ 16777216) :
    Calls Sang.prog 178 #[v] w fun e w' => ((lenOk I ∧ e = .returned (.tuple #[.int .u64 (lenI I 0 : Nat), .int .u64 (lenI I 1 : Nat), .int .u64 (lenI I 2 : Nat), .bool true])) ∨
      (¬ lenOk I ∧ e = .returned (.tuple #[.int .u64 0, .int .u64 0, .int .u64 0, .bool false]))) ∧ Fr w.heap.size no w w' := by
  have HS : Hid (Sl w .u8 v I) := h
  have HD : Hid (Dg 256 I) := hd
  have HM : Hid (∀ i, i < 3 → [lenI I 0, lenI I 1, lenI I 2].getD i 0 = lenI I i) := by
    intro i hi
    have : i = 0 ∨ i = 1 ∨ i = 2 := by omega
    rcases this with h | h | h <;> subst h <;> rfl
  have HMl : Hid ([lenI I 0, lenI I 1, lenI I 2].length = 3) := rfl
  clear h hd
  go_enter Sang.func178, Sang.ntmps178
  go_wp2_with fail
  have hU0 : IB (w.alloc (.cells #[.int .u64 0, .int .u64 0, .int .u64 0] 252)) w.heap.size .u64 252 (part [lenI I 0, lenI I 1, lenI I 2] 0) := IB.newAt rfl rfl
  have hf0 : Fr w.heap.size no w (w.alloc (.cells #[.int .u64 0, .int .u64 0, .int .u64 0] 252)) := (Fr.refl _ _ _).alloc (Nat.le_refl _) _
  generalize w.alloc (.cells #[.int .u64 0, .int .u64 0, .int .u64 0] 252) = w0 at hU0 hf0 ⊢
  generalize HMM : [lenI I 0, lenI I 1, lenI I 2] = M at hU0 HM HMl
  have HMM' : Hid ([lenI I 0, lenI I 1, lenI I 2] = M) := HMM
  clear HMM
  go_loopw [9] (fun iv wr => ∃ i : Nat, i ≤ 3 ∧ iv = .int .i64 (i : Int) ∧ Hid (∀ j, j < i → lenI I j ≤ 64) ∧ IB wr w.heap.size .u64 252 (part M i) ∧ Fr w.heap.size no w wr) (fun i _ => 3 - (intOf i).toNat)
  case atStart => exact ⟨0, by omega, rfl, fun j hj => by omega, hU0, hf0⟩
  case round =>
    obtain ⟨i, hi, rfl, HJ, hU, hf⟩ := hrel
    clear hU0 hf0
    have hpl : (part M i).length = 3 := by rw [part_length _ _ (by rw [HMl.out]; exact hi), HMl.out]
    by_cases hin : i < 3
    · have hin' : (i : Int) < 3 := by omega
      obtain ⟨q, HQ⟩ : ∃ q, Hid (∀ _ : Unit, q = 32 * i) := ⟨_, fun _ => rfl⟩
      have eq1 : (32 : Int) * (i : Int) = (q : Int) := by rw [HQ.out ()]; omega
      have hq1 : (q : Int) ≤ 96 := by rw [HQ.out ()]; omega
      go_wp2_with fail
      refine (ypPart_any v I q 32 wr (HS.out.fr hf) sI (by omega) (by omega)).mono ?_
      rintro e w1 ⟨v1, rfl, hv1, hf1⟩
      replace hU := hU.fr hf1 hU.lt (fun x => x)
      replace hf := hf.step hf1 hf.size (fun _ _ x => x)
      clear hf1
      go_wp2_with fail
      refine (fromBE_Sl v1 _ w1 hv1 (partB_dg HD.out _ _) (by rw [partB_length]; omega)).mono ?_
      rintro e w2 ⟨v2, rfl, hv2, hf2⟩
      replace hU := hU.fr hf2 hU.lt (fun x => x)
      replace hf := hf.step hf2 hf.size (fun _ _ x => x)
      have hlI : be (partB I q 32) = lenI I i := by rw [HQ.out ()]; rfl
      rw [hlI] at hv2
      clear hf2 hlI hv1
      have HMi := HM.out i hin
      go_wp2_with fail
      refine (num_any 64 w2 (by decide)).mono ?_
      rintro e w3 ⟨v3, rfl, hv3, hf3⟩
      replace hU := hU.fr hf3 hU.lt (fun x => x)
      replace hf := hf.step hf3 hf.size (fun _ _ x => x)
      replace hv2 := hv2.fr hf3
      clear hf3
      have hcm := cmp_any v2 v3 _ _ w3 hv2 (digs_dg _) hv3 (digs_dg _)
      rw [val_digs, val_digs] at hcm
      by_cases hN : lenI I i ≤ 64
      · have hle : ¬ (0 : Int) < cmpZ (lenI I i) 64 := by
          unfold cmpZ
          split
          · omega
          · first
              | omega
              | (split <;> omega)
        generalize cmpZ (lenI I i) 64 = cz at hcm hle
        generalize hx : lenI I i = x at *
        have HX : Hid (∀ _ : Unit, lenI I i = x) := fun _ => hx
        have HMi' : Hid (∀ _ : Unit, M.getD i 0 = x) := fun _ => HMi
        have hN' : (x : Int) ≤ 64 := by omega
        have HNx : Hid (x ≤ 64) := hN
        clear hx HMi hN
        go_wp2_with fail
        refine hcm.mono ?_
        clear hcm
        rintro e w4 ⟨rfl, hf4⟩
        replace hU := hU.fr hf4 hU.lt (fun x => x)
        replace hf := hf.step hf4 hf.size (fun _ _ x => x)
        replace hv2 := hv2.fr hf4
        clear hf4 hv3
        go_wp2_with fail
        refine (small_any v2 x w4 hv2 (by rw [W64_eq]; have := HNx.out; omega)).mono ?_
        rintro e w4 ⟨rfl, rfl⟩
        have hc := hU.cell i (by omega)
        have hz := hU.unfrozen i
        generalize (part M i).getD i 0 = g0 at hc
        go_wp2_with fail
        refine ⟨⟨i + 1, by omega, by go_num, ?_, ?_, hf.setCell (.inl (Nat.le_refl _)) _⟩, by simp [intOf]; omega⟩
        · intro j hj
          by_cases e : j = i
          · rw [e, HX.out ()]; exact HNx.out
          · exact HJ.out j (by omega)
        · refine hU.set' i x rfl ?_
          rw [part_succ _ _ (by rw [HMl.out]; exact hin), HMi'.out ()]
      · have HNo : Hid (¬ lenOk I) := fun h => hN (h i hin)
        rw [cmpZ_gt (show 64 < lenI I i by omega)] at hcm
        clear hN HMi
        go_wp2_with fail
        refine hcm.mono ?_
        clear hcm
        rintro e w4 ⟨rfl, hf4⟩
        replace hf := hf.step hf4 hf.size (fun _ _ x => x)
        go_wp2_with fail
        (try simp only [Exit.inBlock, Exit.then])
        refine bodyPost_ret (results_tmp4 rfl _ _ _) rfl ?_
        exact ⟨.inr ⟨HNo.out, rfl⟩, hf⟩
    · have : i = 3 := by omega
      subst this
      have hall : part M 3 = [lenI I 0, lenI I 1, lenI I 2] := by
        have h1 := part_all M
        rw [HMl.out] at h1
        rw [h1, HMM'.out]
      rw [hall] at hU
      have HOk : Hid (lenOk I) := fun j hj => HJ.out j hj
      have hUd := hU.drew
      have hc0 := hUd.cell 0 (by simp)
      have hc1 := hUd.cell 1 (by simp)
      have hc2 := hUd.cell 2 (by simp)
      clear hall hpl
      go_wp2_with fail
      go_region
      go_wp2_with fail
      (try simp only [Exit.inBlock, Exit.then])
      refine bodyPost_ret (results_tmp4 rfl _ _ _) rfl ?_
      refine ⟨.inl ⟨HOk.out, ?_⟩, hf.drew⟩
      simp [Act.put]
end Go.Proofs.YgcsanGreat
