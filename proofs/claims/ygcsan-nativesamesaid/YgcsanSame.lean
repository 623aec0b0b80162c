/-
  Package law: nativeSameHolds, NativeSame.
-/
import Derived.Test.YgcsanYpD
namespace Go.Proofs.Ygcsan
open Go.RowKit
set_option linter.unusedSimpArgs false
set_option linter.unusedVariables false

theorem costN_room (kind : Nat) {I : List Nat} (hd : Dg 256 I) (sI : I.length ≤ 16777216) (h : kind = 4 ∨ lenOk I) : costN kind I < W64 := by
  unfold costN
  rw [W64_eq]
  split
  · omega
  · rename_i h4
    have hok : lenOk I := h.resolve_left h4
    have h0 := hok 0 (by omega)
    have h1 := hok 1 (by omega)
    have h2 := hok 2 (by omega)
    have hb := blen_le (headN_room hd)
    have ht : turnsN I ≤ 599 := by
      unfold turnsN
      split <;> omega
    generalize turnsN I = T at *
    generalize hw : (max (lenI I 0) (lenI I 2) + 7) / 8 = wd at *
    have hwd : wd ≤ 8 := by omega
    have h3 : wd * wd * max T 1 ≤ 8 * 8 * 600 := Nat.mul_le_mul (Nat.mul_le_mul hwd hwd) (by omega)
    omega

set_option maxRecDepth 10000 in
set_option maxHeartbeats 400000 in
theorem holds_id (v vo : Value) (I : List Nat) (w : World) (h : Sl w .u8 v I) (ho : Sl w .u8 vo I) (hd : Dg 256 I) (sI : I.length ≤ 16777216) :
    Calls Sang.prog 22 #[.int .u8 4, v, .int .u64 (costN 4 I : Nat), .bool true, vo] w fun e w' => e = .returned (.bool true) ∧ Fr w.heap.size no w w' := by
  have HR : Hid (costN 4 I < W64) := costN_room 4 hd sI (.inl rfl)
  go_enter Sang.func22, Sang.ntmps22
  go_wp2_with fail
  refine (yCost_id v I w h sI).mono ?_
  rintro e w1 ⟨v1, rfl, h1, hf1⟩
  have hG := sameGas_any v1 (costN 4 I) w1 h1 HR.out
  generalize costN 4 I = c at *
  go_wp2_with fail
  refine hG.mono ?_
  clear hG
  rintro e w2 ⟨rfl, hf2⟩
  have hfw2 := hf1.step hf2 hf1.size (fun _ _ x => x)
  clear hf1 hf2 h1
  go_wp2_with fail
  refine (yRun_id v I w2 (h.fr hfw2) sI).mono ?_
  rintro e w3 ⟨v3, rfl, h3, hf3⟩
  have hfw3 := hfw2.step hf3 hfw2.size (fun _ _ x => x)
  go_wp2_with fail
  refine (equalBytes_same vo v3 I w3 (ho.fr hfw3) h3).mono ?_
  rintro e w3 ⟨rfl, rfl⟩
  go_wp2_with fail
  go_ret
  exact ⟨rfl, hfw3⟩

set_option maxRecDepth 10000 in
set_option maxHeartbeats 400000 in
theorem holds_pow (v vo : Value) (I : List Nat) (w : World) (h : Sl w .u8 v I) (hok : lenOk I) (ho : Sl w .u8 vo (outN I)) (hd : Dg 256 I) (sI : I.length ≤ 16777216) :
    Calls Sang.prog 22 #[.int .u8 5, v, .int .u64 (costN 5 I : Nat), .bool true, vo] w fun e w' => e = .returned (.bool true) ∧ Fr w.heap.size no w w' := by
  have HR : Hid (costN 5 I < W64) := costN_room 5 hd sI (.inr hok)
  have HOK : Hid (lenOk I) := hok
  have HDD : Hid (Dg 256 I) := hd
  have hC := yCost_pow v I w h hd sI
  clear hok hd
  go_enter Sang.func22, Sang.ntmps22
  go_wp2_with fail
  refine hC.mono ?_
  clear hC
  rintro e w1 ⟨hcase | hcase, hf1⟩
  · obtain ⟨hok, v1, rfl, h1⟩ := hcase
    have hG := sameGas_any v1 (costN 5 I) w1 h1 HR.out
    clear hok
    generalize costN 5 I = c at *
    go_wp2_with fail
    refine hG.mono ?_
    clear hG
    rintro e w2 ⟨rfl, hf2⟩
    have hfw2 := hf1.step hf2 hf1.size (fun _ _ x => x)
    clear hf1 hf2 h1
    go_wp2_with fail
    refine (yRun_pow v I w2 (h.fr hfw2) HDD.out sI HOK.out).mono ?_
    rintro e w3 ⟨v3, rfl, h3, hf3⟩
    have hfw3 := hfw2.step hf3 hfw2.size (fun _ _ x => x)
    go_wp2_with fail
    refine (equalBytes_same vo v3 (outN I) w3 (ho.fr hfw3) h3).mono ?_
    rintro e w3 ⟨rfl, rfl⟩
    go_wp2_with fail
    go_ret
    exact ⟨rfl, hfw3⟩
  · exact absurd HOK.out hcase.1

set_option maxRecDepth 10000 in
set_option maxHeartbeats 400000 in
theorem holds_no (v vo : Value) (I : List Nat) (w : World) (h : Sl w .u8 v I) (hno : ¬ lenOk I) (hd : Dg 256 I) (sI : I.length ≤ 16777216) :
    Calls Sang.prog 22 #[.int .u8 5, v, .int .u64 0, .bool false, vo] w fun e w' => e = .returned (.bool true) ∧ Fr w.heap.size no w w' := by
  have HNO : Hid (¬ lenOk I) := hno
  have hC := yCost_pow v I w h hd sI
  clear hno hd
  go_enter Sang.func22, Sang.ntmps22
  go_wp2_with fail
  refine hC.mono ?_
  clear hC
  rintro e w1 ⟨hcase | hcase, hf1⟩
  · exact absurd hcase.1 HNO.out
  · obtain ⟨_, rfl⟩ := hcase
    go_wp2_with fail
    go_ret
    exact ⟨rfl, hf1⟩

set_option maxRecDepth 10000 in
set_option maxHeartbeats 400000 in
theorem holds_other (kind : Nat) (v vo : Value) (w : World) (hk4 : kind ≠ 4) (hk5 : kind ≠ 5) :
    Calls Sang.prog 22 #[.int .u8 (kind : Int), v, .int .u64 0, .bool false, vo] w fun e w' => e = .returned (.bool true) ∧ Fr w.heap.size no w w' := by
  have hC := yCost_other kind v w hk4 hk5
  clear hk4 hk5
  go_enter Sang.func22, Sang.ntmps22
  go_wp2_with fail
  refine hC.mono ?_
  clear hC
  rintro e w1 ⟨rfl, rfl⟩
  go_wp2_with fail
  go_ret
  exact ⟨rfl, Fr.refl _ _ _⟩

set_option maxRecDepth 10000 in
set_option maxHeartbeats 600000 in
theorem nativeSame_any (kind : Nat) (v : Value) (I : List Nat) (w : World) (h : Sl w .u8 v I) (hd : Dg 256 I) :
    Calls Sang.prog 5 #[.int .u8 (kind : Int), v] w fun e w' => e = .returned (.bool true) ∧ Fr w.heap.size no w w' := by
  have HS : Hid (Sl w .u8 v I) := h
  have HD : Hid (Dg 256 I) := hd
  obtain ⟨a, cap, rfl, hl, hm, hc⟩ := h
  clear hc hd
  unfold maxLen at hm
  by_cases hbig : 717280 < I.length
  · have hb : (717280 : Int) < (I.length : Int) := by omega
    clear hbig
    go_enter Sang.func5, Sang.ntmps5
    go_wp2_with fail
    go_ret
    exact ⟨rfl, Fr.refl _ _ _⟩
  · have hb : (I.length : Int) ≤ 717280 := by omega
    have HSI : Hid (I.length ≤ 16777216) := by unfold Hid; omega
    clear hbig
    by_cases hk4 : kind = 4
    · subst hk4
      have hC := mCost_id _ I w HS.out HSI.out
      go_enter Sang.func5, Sang.ntmps5
      go_wp2_with fail
      refine hC.mono ?_
      clear hC
      rintro e w1 ⟨rfl, rfl⟩
      have hH := fun vo w' h1 h2 => holds_id (.slice a I.length cap) vo I w' h1 h2 HD.out HSI.out
      generalize costN 4 I = c at *
      go_wp2_with fail
      refine (mRun_id _ I _ HS.out HSI.out).mono ?_
      rintro e w2 ⟨vo, rfl, ho, hf2⟩
      go_wp2_with fail
      refine (hH vo w2 (HS.out.fr hf2) ho).mono ?_
      rintro e w3 ⟨rfl, hf3⟩
      go_wp2_with fail
      go_ret
      exact ⟨rfl, hf2.step hf3 hf2.size (fun _ _ x => x)⟩
    by_cases hk5 : kind = 5
    · subst hk5
      clear hk4
      have hC := mCost_pow _ I w HS.out HD.out HSI.out
      go_enter Sang.func5, Sang.ntmps5
      go_wp2_with fail
      refine hC.mono ?_
      clear hC
      rintro e w1 ⟨hcase | hcase, hf1⟩
      · obtain ⟨hok, rfl⟩ := hcase
        have HOK : Hid (lenOk I) := hok
        clear hok
        have hH := fun vo w' h1 h2 => holds_pow (.slice a I.length cap) vo I w' h1 HOK.out h2 HD.out HSI.out
        have hR := mRun_pow _ I w1 (HS.out.fr hf1) HD.out HSI.out
        generalize costN 5 I = c at *
        go_wp2_with fail
        refine hR.mono ?_
        clear hR
        rintro e w2 ⟨vo, rfl, ho, hf2⟩
        have hfw2 := hf1.step hf2 hf1.size (fun _ _ x => x)
        have ho2 := ho HOK.out
        clear ho hf1 hf2
        go_wp2_with fail
        refine (hH vo w2 (HS.out.fr hfw2) ho2).mono ?_
        rintro e w3 ⟨rfl, hf3⟩
        go_wp2_with fail
        go_ret
        exact ⟨rfl, hfw2.step hf3 hfw2.size (fun _ _ x => x)⟩
      · obtain ⟨hno, rfl⟩ := hcase
        have HNO : Hid (¬ lenOk I) := hno
        clear hno
        have hR := mRun_pow _ I w1 (HS.out.fr hf1) HD.out HSI.out
        go_wp2_with fail
        refine hR.mono ?_
        clear hR
        rintro e w2 ⟨vo, rfl, ho, hf2⟩
        have hfw2 := hf1.step hf2 hf1.size (fun _ _ x => x)
        clear ho hf1 hf2
        go_wp2_with fail
        refine (holds_no _ vo I w2 (HS.out.fr hfw2) HNO.out HD.out HSI.out).mono ?_
        rintro e w3 ⟨rfl, hf3⟩
        go_wp2_with fail
        go_ret
        exact ⟨rfl, hfw2.step hf3 hfw2.size (fun _ _ x => x)⟩
    · have hC := mCost_other kind (.slice a I.length cap) w hk4 hk5
      have hR := mRun_other kind _ I w HS.out HD.out HSI.out hk4 hk5
      have hH := fun vo w' => holds_other kind (.slice a I.length cap) vo w' hk4 hk5
      clear hk4 hk5
      go_enter Sang.func5, Sang.ntmps5
      go_wp2_with fail
      refine hC.mono ?_
      clear hC
      rintro e w1 ⟨rfl, rfl⟩
      go_wp2_with fail
      refine hR.mono ?_
      clear hR
      rintro e w2 ⟨vo, rfl, ho, hf2⟩
      go_wp2_with fail
      refine (hH vo w2).mono ?_
      rintro e w3 ⟨rfl, hf3⟩
      go_wp2_with fail
      go_ret
      exact ⟨rfl, hf2.step hf3 hf2.size (fun _ _ x => x)⟩
end Go.Proofs.Ygcsan
