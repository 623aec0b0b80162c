/-
  Package yp: NativeCost.
-/
import Derived.Test.YgcsanGreatYpB
import Derived.Laws.Small
import Derived.Lib.Mul64
import Derived.Lib.BitFns
import Derived.Lib.Small
import Derived.Lib.Walk
import Derived.Laws.Bits64b
namespace Go.Proofs.YgcsanGreat
open Go.RowKit
set_option linter.unusedSimpArgs false
set_option linter.unusedVariables false

theorem small_room {a : Nat} (h : a < 4294967296) : a < W64 ^ 8 := Nat.lt_of_lt_of_le h (by decide)
theorem small_room16 {a : Nat} (h : a < 4294967296) : a < W64 ^ 16 := Nat.lt_of_lt_of_le h (by decide)
theorem small_W64 {a : Nat} (h : a < 4294967296) : a < W64 := by rw [W64_eq]; omega

set_option maxRecDepth 10000 in
set_option maxHeartbeats 400000 in
theorem yCost_other (kind : Nat) (v : Value) (w : World) (hk4 : kind ≠ 4) (hk5 : kind ≠ 5) :
    Calls Sang.prog 143 #[.int .u8 (kind : Int), v] w fun e w' => e = .returned (.tuple #[.slice none 0 0, .bool false]) ∧ w' = w := by
  have h4 : ((kind : Int) == 4) = false := by simp; omega
  have h5 : ((kind : Int) == 5) = false := by simp; omega
  clear hk4 hk5
  go_enter Sang.func143, Sang.ntmps143
  go_wp2_with fail
  go_ret2
  exact ⟨rfl, rfl⟩

set_option maxRecDepth 10000 in
set_option maxHeartbeats 400000 in
theorem yCost_id (v : Value) (I : List Nat) (w : World) (h : Sl w .u8 v I) (sI : I.length ≤ 16777216) :
    Calls Sang.prog 143 #[.int .u8 4, v] w fun e w' => ∃ v', e = .returned (.tuple #[v', .bool true]) ∧ Sl w' .u8 v' (digs (costN 4 I)) ∧ Fr w.heap.size no w w' := by
  have HC : Hid (∀ _ : Unit, costN 4 I = 15 + 3 * ((I.length + 31) / 32)) := fun _ => rfl
  obtain ⟨a, cap, rfl, hl, hm, hc⟩ := h
  clear hc
  have hf : Fr w.heap.size no w w := Fr.refl _ _ _
  go_enter Sang.func143, Sang.ntmps143
  go_wp2_with fail
  refine (num_any 15 w (by decide)).mono ?_
  rintro e' w1 ⟨v1, rfl, h1, hfx⟩
  replace hf := hf.step hfx hf.size (fun _ _ x => x)
  clear hfx
  go_wp2_with fail
  refine (num_any 3 w1 (by decide)).mono ?_
  rintro e' w2 ⟨v2, rfl, h2, hfx⟩
  replace h1 := h1.fr hfx
  replace hf := hf.step hfx hf.size (fun _ _ x => x)
  clear hfx
  go_wp2_with fail
  refine (num_any I.length w2 (small_W64 (by omega))).mono ?_
  rintro e' w3 ⟨v3, rfl, h3, hfx⟩
  replace h1 := h1.fr hfx
  replace h2 := h2.fr hfx
  replace hf := hf.step hfx hf.size (fun _ _ x => x)
  clear hfx
  go_wp2_with fail
  refine (words_any v3 I.length w3 h3 (small_W64 (by omega))).mono ?_
  rintro e' w4 ⟨v4, rfl, h4, hfx⟩
  replace h1 := h1.fr hfx
  replace h2 := h2.fr hfx
  replace h3 := h3.fr hfx
  replace hf := hf.step hfx hf.size (fun _ _ x => x)
  clear hfx
  go_wp2_with fail
  refine (mulN_any v2 v4 3 ((I.length + 31) / 32) w4 h2 h4 (by decide) (small_room (by omega))).mono ?_
  rintro e' w5 ⟨v5, rfl, h5, hfx⟩
  replace h1 := h1.fr hfx
  replace h2 := h2.fr hfx
  replace h3 := h3.fr hfx
  replace h4 := h4.fr hfx
  replace hf := hf.step hfx hf.size (fun _ _ x => x)
  clear hfx
  go_wp2_with fail
  refine (addN_any v1 v5 15 (3 * ((I.length + 31) / 32)) w5 h1 h5 (by decide) (small_room (by omega))).mono ?_
  rintro e' w6 ⟨v6, rfl, h6, hfx⟩
  replace h1 := h1.fr hfx
  replace h2 := h2.fr hfx
  replace h3 := h3.fr hfx
  replace h4 := h4.fr hfx
  replace h5 := h5.fr hfx
  replace hf := hf.step hfx hf.size (fun _ _ x => x)
  clear hfx
  go_wp2_with fail
  rw [← HC.out ()] at h6
  go_ret2
  exact ⟨_, rfl, h6, hf⟩

set_option maxRecDepth 10000 in
set_option maxHeartbeats 600000 in
theorem yCost_pow (v : Value) (I : List Nat) (w : World) (h : Sl w .u8 v I) (hd : Dg 256 I) (sI : I.length ≤ 16777216) :
    Calls Sang.prog 143 #[.int .u8 5, v] w fun e w' => ((lenOk I ∧ ∃ v', e = .returned (.tuple #[v', .bool true]) ∧ Sl w' .u8 v' (digs (costN 5 I))) ∨ (¬ lenOk I ∧ e = .returned (.tuple #[.slice none 0 0, .bool false]))) ∧ Fr w.heap.size no w w' := by
  have HS : Hid (Sl w .u8 v I) := h
  have HD : Hid (Dg 256 I) := hd
  have hlen := ypLengths_any v I w h hd sI
  clear h hd
  go_enter Sang.func143, Sang.ntmps143
  go_wp2_with fail
  refine hlen.mono ?_
  clear hlen
  rintro e w0 ⟨hcase | hcase, hf⟩
  · obtain ⟨hok, rfl⟩ := hcase
    have HOK : Hid (lenOk I) := hok
    have HB0 : Hid (lenI I 0 ≤ 64) := hok 0 (by omega)
    have HB1 : Hid (lenI I 1 ≤ 64) := hok 1 (by omega)
    have HB2 : Hid (lenI I 2 ≤ 64) := hok 2 (by omega)
    have HCost : Hid (∀ _ : Unit, costN 5 I = max 200 ((max (lenI I 0) (lenI I 2) + 7) / 8 * ((max (lenI I 0) (lenI I 2) + 7) / 8) * max (turnsN I) 1 / 3)) := fun _ => rfl
    have HTurn : Hid (∀ _ : Unit, turnsN I = (blen (headN I) - 1) + (if 32 < lenI I 1 then 8 * (lenI I 1 - 32) else 0)) := fun _ => rfl
    have HHead : Hid (∀ _ : Unit, headN I = be (partB I (96 + lenI I 0) (min (lenI I 1) 32))) := fun _ => rfl
    have HHr : Hid (∀ _ : Unit, headN I < W64 ^ 4) := fun _ => headN_room HD.out
    have HBl : Hid (∀ _ : Unit, blen (headN I) ≤ 256) := fun _ => blen_le (HHr.out ())
    generalize lenI I 0 = b at *
    generalize lenI I 1 = ee at *
    generalize lenI I 2 = m at *
    have hb0 : (b : Int) ≤ 64 := by have := HB0.out; omega
    have he0 : (ee : Int) ≤ 64 := by have := HB1.out; omega
    have hm0 : (m : Int) ≤ 64 := by have := HB2.out; omega
    clear hok
    obtain ⟨wd, HWv⟩ : ∃ wd : Nat, Hid (∀ _ : Unit, (max b m + 7) / 8 = wd) := ⟨_, fun _ => rfl⟩
    have HWb : Hid (wd ≤ 8) := by unfold Hid; rw [← HWv.out ()]; omega
    obtain ⟨q, HQ⟩ : ∃ q : Nat, Hid (∀ _ : Unit, q = 96 + b) := ⟨_, fun _ => rfl⟩
    have eQ : (96 : Int) + (b : Int) = (q : Int) := by rw [HQ.out ()]; omega
    have hQ : (q : Int) ≤ 160 := by rw [HQ.out ()]; omega
    obtain ⟨k, HK⟩ : ∃ k : Nat, Hid (∀ _ : Unit, k = min ee 32) := ⟨_, fun _ => rfl⟩
    have eK : min (ee : Int) 32 = (k : Int) := by rw [HK.out ()]; omega
    have hK : (k : Int) ≤ 32 := by rw [HK.out ()]; omega
    have HHe : Hid (∀ _ : Unit, be (partB I q k) = headN I) := fun _ => by rw [HHead.out (), HQ.out (), HK.out ()]
    go_wp2_with fail
    refine (num_any b w0 (small_W64 (by omega))).mono ?_
    rintro e' w1 ⟨v1, rfl, h1, hfx⟩
    replace hf := hf.step hfx hf.size (fun _ _ x => x)
    clear hfx
    go_wp2_with fail
    refine (num_any m w1 (small_W64 (by omega))).mono ?_
    rintro e' w2 ⟨v2, rfl, h2, hfx⟩
    replace h1 := h1.fr hfx
    replace hf := hf.step hfx hf.size (fun _ _ x => x)
    clear hfx
    go_wp2_with fail
    refine (maxNat_any v1 v2 b m w2 h1 h2).mono ?_
    rintro e' w3 ⟨v3, rfl, h3, hfx⟩
    replace h1 := h1.fr hfx
    replace h2 := h2.fr hfx
    replace hf := hf.step hfx hf.size (fun _ _ x => x)
    clear hfx
    clear h1 h2
    go_wp2_with fail
    refine (num_any 7 w3 (by decide)).mono ?_
    rintro e' w4 ⟨v4, rfl, h4, hfx⟩
    replace h3 := h3.fr hfx
    replace hf := hf.step hfx hf.size (fun _ _ x => x)
    clear hfx
    go_wp2_with fail
    refine (addN_any v3 v4 (max b m) 7 w4 h3 h4 (small_room (by omega)) (by decide)).mono ?_
    rintro e' w5 ⟨v5, rfl, h5, hfx⟩
    replace h3 := h3.fr hfx
    replace h4 := h4.fr hfx
    replace hf := hf.step hfx hf.size (fun _ _ x => x)
    clear hfx
    clear h3 h4
    go_wp2_with fail
    refine (divided_any v5 (max b m + 7) 8 w5 h5 (small_room16 (by omega)) (by decide) (by decide)).mono ?_
    rintro e' w6 ⟨vw, rfl, hW, hfx⟩
    replace h5 := h5.fr hfx
    replace hf := hf.step hfx hf.size (fun _ _ x => x)
    clear hfx
    rw [HWv.out ()] at hW
    clear h5
    go_wp2_with fail
    refine (ypPart_any v I q k w6 (HS.out.fr hf) sI (by omega) (by omega)).mono ?_
    rintro e' w7 ⟨v6, rfl, h6, hfx⟩
    replace hW := hW.fr hfx
    replace hf := hf.step hfx hf.size (fun _ _ x => x)
    clear hfx
    go_wp2_with fail
    refine (fromBE_Sl v6 _ w7 h6 (partB_dg HD.out _ _) (by rw [partB_length]; omega)).mono ?_
    rintro e' w8 ⟨v7, rfl, h7, hfx⟩
    replace hW := hW.fr hfx
    replace h6 := h6.fr hfx
    replace hf := hf.step hfx hf.size (fun _ _ x => x)
    clear hfx
    rw [HHe.out ()] at h7
    clear h6
    go_wp2_with fail
    have hbits := bits_any v7 (digs (headN I)) (headN I) w8 h7 (digs_dg _) (val_digs _) (Nat.le_trans (digs_room _ 4 (HHr.out ())) (by decide))
    rw [show bitsF (headN I) (8 * (digs (headN I)).length) = blen (headN I) from rfl] at hbits
    refine hbits.mono ?_
    clear hbits
    rintro e' w8 ⟨rfl, rfl⟩
    clear h7
    generalize blen (headN I) = nb at *
    have hnb : (nb : Int) ≤ 256 := by have := HBl.out (); omega
    have HWW : Hid (wd * wd ≤ 64) := by
      have h1 : wd * wd ≤ 8 * 8 := Nat.mul_le_mul HWb.out HWb.out
      exact h1
    by_cases hn1 : 1 < nb
    · have hn1' : (1 : Int) < (nb : Int) := by omega
      obtain ⟨T0, HT0e⟩ : ∃ T0 : Nat, Hid (∀ _ : Unit, T0 = nb - 1) := ⟨_, fun _ => rfl⟩
      have eT0 : (nb : Int) - 1 = (T0 : Int) := by rw [HT0e.out ()]; omega
      have HT0 : Hid (T0 ≤ 255) := by unfold Hid; rw [HT0e.out ()]; have := HBl.out (); omega
      have HT0v : Hid (∀ _ : Unit, nb - 1 = T0) := fun _ => by rw [HT0e.out ()]
      clear hn1
      go_wp2_with fail
      refine (num_any T0 w8 (small_W64 (by have := HT0.out; omega))).mono ?_
      rintro e' w9 ⟨vT, rfl, hT, hfx⟩
      replace hW := hW.fr hfx
      replace hf := hf.step hfx hf.size (fun _ _ x => x)
      clear hfx
      by_cases he32 : 32 < ee
      · have he' : (32 : Int) < (ee : Int) := by omega
        obtain ⟨x8, HX8⟩ : ∃ x8 : Nat, Hid (∀ _ : Unit, 8 * (ee - 32) = x8) := ⟨_, fun _ => rfl⟩
        have e8 : 8 * ((ee : Int) - 32) = (x8 : Int) := by rw [← HX8.out ()]; omega
        have hx8 : (x8 : Int) ≤ 256 := by rw [← HX8.out ()]; omega
        have HTb : Hid (T0 + x8 ≤ 599) := by unfold Hid; have := HT0.out; omega
        have HTv : Hid (∀ _ : Unit, turnsN I = T0 + x8) := fun _ => by rw [HTurn.out (), if_pos he32, HT0v.out (), HX8.out ()]
        clear he32 HTurn HHead HHr HBl HHe HQ HK
        go_wp2_with fail
        refine (num_any x8 w9 (small_W64 (by omega))).mono ?_
        rintro e' w10 ⟨vt, rfl, ht, hfx⟩
        replace hW := hW.fr hfx
        replace hT := hT.fr hfx
        replace hf := hf.step hfx hf.size (fun _ _ x => x)
        clear hfx
        go_wp2_with fail
        refine (addN_any vT vt T0 x8 w10 hT ht (small_room (by have := HT0.out; omega)) (small_room (by omega))).mono ?_
        rintro e' w11 ⟨vu, rfl, hu, hfx⟩
        replace hW := hW.fr hfx
        replace hT := hT.fr hfx
        replace ht := ht.fr hfx
        replace hf := hf.step hfx hf.size (fun _ _ x => x)
        clear hfx
        clear ht
        go_wp2_with fail
        refine (mulN_any vw vw wd wd w11 hW hW (small_room (by have := HWb.out; omega)) (small_room (by have := HWb.out; omega))).mono ?_
        rintro e' w12 ⟨v8, rfl, h8, hfx⟩
        replace hW := hW.fr hfx
        replace hT := hT.fr hfx
        replace hu := hu.fr hfx
        replace hf := hf.step hfx hf.size (fun _ _ x => x)
        clear hfx
        go_wp2_with fail
        refine (num_any 1 w12 (by decide)).mono ?_
        rintro e' w13 ⟨v9, rfl, h9, hfx⟩
        replace hW := hW.fr hfx
        replace hT := hT.fr hfx
        replace hu := hu.fr hfx
        replace h8 := h8.fr hfx
        replace hf := hf.step hfx hf.size (fun _ _ x => x)
        clear hfx
        go_wp2_with fail
        refine (maxNat_any vu v9 (T0 + x8) 1 w13 hu h9).mono ?_
        rintro e' w14 ⟨vA, rfl, hA, hfx⟩
        replace hW := hW.fr hfx
        replace hT := hT.fr hfx
        replace hu := hu.fr hfx
        replace h8 := h8.fr hfx
        replace h9 := h9.fr hfx
        replace hf := hf.step hfx hf.size (fun _ _ x => x)
        clear hfx
        clear h9
        go_wp2_with fail
        have HX : Hid (max (T0 + x8) 1 ≤ 600) := by have := HTb.out; unfold Hid; omega
        refine (mulN_any v8 vA (wd * wd) (max (T0 + x8) 1) w14 h8 hA (small_room (by have := HWW.out; omega)) (small_room (by have := HX.out; omega))).mono ?_
        rintro e' w15 ⟨vB, rfl, hB, hfx⟩
        replace hW := hW.fr hfx
        replace hT := hT.fr hfx
        replace hu := hu.fr hfx
        replace h8 := h8.fr hfx
        replace hA := hA.fr hfx
        replace hf := hf.step hfx hf.size (fun _ _ x => x)
        clear hfx
        clear h8 hA
        go_wp2_with fail
        have HY : Hid (wd * wd * max (T0 + x8) 1 ≤ 38400) := Nat.mul_le_mul HWW.out HX.out
        refine (num_any 200 w15 (by decide)).mono ?_
        rintro e' w16 ⟨vC, rfl, hC, hfx⟩
        replace hW := hW.fr hfx
        replace hT := hT.fr hfx
        replace hu := hu.fr hfx
        replace hB := hB.fr hfx
        replace hf := hf.step hfx hf.size (fun _ _ x => x)
        clear hfx
        go_wp2_with fail
        refine (divided_any vB (wd * wd * max (T0 + x8) 1) 3 w16 hB (small_room16 (by have := HY.out; omega)) (by decide) (by decide)).mono ?_
        rintro e' w17 ⟨vD, rfl, hD, hfx⟩
        replace hW := hW.fr hfx
        replace hT := hT.fr hfx
        replace hu := hu.fr hfx
        replace hB := hB.fr hfx
        replace hC := hC.fr hfx
        replace hf := hf.step hfx hf.size (fun _ _ x => x)
        clear hfx
        clear hB
        go_wp2_with fail
        refine (maxNat_any vC vD 200 (wd * wd * max (T0 + x8) 1 / 3) w17 hC hD).mono ?_
        rintro e' w18 ⟨vE, rfl, hE, hfx⟩
        replace hW := hW.fr hfx
        replace hT := hT.fr hfx
        replace hu := hu.fr hfx
        replace hC := hC.fr hfx
        replace hD := hD.fr hfx
        replace hf := hf.step hfx hf.size (fun _ _ x => x)
        clear hfx
        have hco : max 200 (wd * wd * max (T0 + x8) 1 / 3) = costN 5 I := by rw [HCost.out (), HTv.out (), HWv.out ()]
        rw [hco] at hE
        go_wp2_with fail
        go_ret2
        exact ⟨.inl ⟨HOK.out, _, rfl, hE⟩, hf⟩
      · have he' : ¬ (32 : Int) < (ee : Int) := by omega
        have HTb : Hid (T0 ≤ 599) := by unfold Hid; have := HT0.out; omega
        have HTv : Hid (∀ _ : Unit, turnsN I = T0) := fun _ => by rw [HTurn.out (), if_neg he32, HT0v.out (), Nat.add_zero]
        clear he32 HTurn HHead HHr HBl HHe HQ HK
        go_wp2_with fail
        refine (mulN_any vw vw wd wd w9 hW hW (small_room (by have := HWb.out; omega)) (small_room (by have := HWb.out; omega))).mono ?_
        rintro e' w10 ⟨v8, rfl, h8, hfx⟩
        replace hW := hW.fr hfx
        replace hT := hT.fr hfx
        replace hf := hf.step hfx hf.size (fun _ _ x => x)
        clear hfx
        go_wp2_with fail
        refine (num_any 1 w10 (by decide)).mono ?_
        rintro e' w11 ⟨v9, rfl, h9, hfx⟩
        replace hW := hW.fr hfx
        replace hT := hT.fr hfx
        replace h8 := h8.fr hfx
        replace hf := hf.step hfx hf.size (fun _ _ x => x)
        clear hfx
        go_wp2_with fail
        refine (maxNat_any vT v9 T0 1 w11 hT h9).mono ?_
        rintro e' w12 ⟨vA, rfl, hA, hfx⟩
        replace hW := hW.fr hfx
        replace hT := hT.fr hfx
        replace h8 := h8.fr hfx
        replace h9 := h9.fr hfx
        replace hf := hf.step hfx hf.size (fun _ _ x => x)
        clear hfx
        clear h9
        go_wp2_with fail
        have HX : Hid (max T0 1 ≤ 600) := by have := HTb.out; unfold Hid; omega
        refine (mulN_any v8 vA (wd * wd) (max T0 1) w12 h8 hA (small_room (by have := HWW.out; omega)) (small_room (by have := HX.out; omega))).mono ?_
        rintro e' w13 ⟨vB, rfl, hB, hfx⟩
        replace hW := hW.fr hfx
        replace hT := hT.fr hfx
        replace h8 := h8.fr hfx
        replace hA := hA.fr hfx
        replace hf := hf.step hfx hf.size (fun _ _ x => x)
        clear hfx
        clear h8 hA
        go_wp2_with fail
        have HY : Hid (wd * wd * max T0 1 ≤ 38400) := Nat.mul_le_mul HWW.out HX.out
        refine (num_any 200 w13 (by decide)).mono ?_
        rintro e' w14 ⟨vC, rfl, hC, hfx⟩
        replace hW := hW.fr hfx
        replace hT := hT.fr hfx
        replace hB := hB.fr hfx
        replace hf := hf.step hfx hf.size (fun _ _ x => x)
        clear hfx
        go_wp2_with fail
        refine (divided_any vB (wd * wd * max T0 1) 3 w14 hB (small_room16 (by have := HY.out; omega)) (by decide) (by decide)).mono ?_
        rintro e' w15 ⟨vD, rfl, hD, hfx⟩
        replace hW := hW.fr hfx
        replace hT := hT.fr hfx
        replace hB := hB.fr hfx
        replace hC := hC.fr hfx
        replace hf := hf.step hfx hf.size (fun _ _ x => x)
        clear hfx
        clear hB
        go_wp2_with fail
        refine (maxNat_any vC vD 200 (wd * wd * max T0 1 / 3) w15 hC hD).mono ?_
        rintro e' w16 ⟨vE, rfl, hE, hfx⟩
        replace hW := hW.fr hfx
        replace hT := hT.fr hfx
        replace hC := hC.fr hfx
        replace hD := hD.fr hfx
        replace hf := hf.step hfx hf.size (fun _ _ x => x)
        clear hfx
        have hco : max 200 (wd * wd * max T0 1 / 3) = costN 5 I := by rw [HCost.out (), HTv.out (), HWv.out ()]
        rw [hco] at hE
        go_wp2_with fail
        go_ret2
        exact ⟨.inl ⟨HOK.out, _, rfl, hE⟩, hf⟩
    · have hn1' : ¬ (1 : Int) < (nb : Int) := by omega
      obtain ⟨T0, HT0e⟩ : ∃ T0 : Nat, Hid (∀ _ : Unit, T0 = 0) := ⟨_, fun _ => rfl⟩
      have HT0 : Hid (T0 ≤ 255) := by unfold Hid; rw [HT0e.out ()]; omega
      have HT0v : Hid (∀ _ : Unit, nb - 1 = T0) := fun _ => by rw [HT0e.out ()]; omega
      have hT : Sl w8 .u8 (.slice none 0 0) (digs T0) := by rw [HT0e.out ()]; exact Sl.nil _ _
      clear hn1
      by_cases he32 : 32 < ee
      · have he' : (32 : Int) < (ee : Int) := by omega
        obtain ⟨x8, HX8⟩ : ∃ x8 : Nat, Hid (∀ _ : Unit, 8 * (ee - 32) = x8) := ⟨_, fun _ => rfl⟩
        have e8 : 8 * ((ee : Int) - 32) = (x8 : Int) := by rw [← HX8.out ()]; omega
        have hx8 : (x8 : Int) ≤ 256 := by rw [← HX8.out ()]; omega
        have HTb : Hid (T0 + x8 ≤ 599) := by unfold Hid; have := HT0.out; omega
        have HTv : Hid (∀ _ : Unit, turnsN I = T0 + x8) := fun _ => by rw [HTurn.out (), if_pos he32, HT0v.out (), HX8.out ()]
        clear he32 HTurn HHead HHr HBl HHe HQ HK
        go_wp2_with fail
        refine (num_any x8 w8 (small_W64 (by omega))).mono ?_
        rintro e' w9 ⟨vt, rfl, ht, hfx⟩
        replace hW := hW.fr hfx
        replace hT := hT.fr hfx
        replace hf := hf.step hfx hf.size (fun _ _ x => x)
        clear hfx
        go_wp2_with fail
        refine (addN_any (.slice none 0 0) vt T0 x8 w9 hT ht (small_room (by have := HT0.out; omega)) (small_room (by omega))).mono ?_
        rintro e' w10 ⟨vu, rfl, hu, hfx⟩
        replace hW := hW.fr hfx
        replace hT := hT.fr hfx
        replace ht := ht.fr hfx
        replace hf := hf.step hfx hf.size (fun _ _ x => x)
        clear hfx
        clear ht
        go_wp2_with fail
        refine (mulN_any vw vw wd wd w10 hW hW (small_room (by have := HWb.out; omega)) (small_room (by have := HWb.out; omega))).mono ?_
        rintro e' w11 ⟨v8, rfl, h8, hfx⟩
        replace hW := hW.fr hfx
        replace hT := hT.fr hfx
        replace hu := hu.fr hfx
        replace hf := hf.step hfx hf.size (fun _ _ x => x)
        clear hfx
        go_wp2_with fail
        refine (num_any 1 w11 (by decide)).mono ?_
        rintro e' w12 ⟨v9, rfl, h9, hfx⟩
        replace hW := hW.fr hfx
        replace hT := hT.fr hfx
        replace hu := hu.fr hfx
        replace h8 := h8.fr hfx
        replace hf := hf.step hfx hf.size (fun _ _ x => x)
        clear hfx
        go_wp2_with fail
        refine (maxNat_any vu v9 (T0 + x8) 1 w12 hu h9).mono ?_
        rintro e' w13 ⟨vA, rfl, hA, hfx⟩
        replace hW := hW.fr hfx
        replace hT := hT.fr hfx
        replace hu := hu.fr hfx
        replace h8 := h8.fr hfx
        replace h9 := h9.fr hfx
        replace hf := hf.step hfx hf.size (fun _ _ x => x)
        clear hfx
        clear h9
        go_wp2_with fail
        have HX : Hid (max (T0 + x8) 1 ≤ 600) := by have := HTb.out; unfold Hid; omega
        refine (mulN_any v8 vA (wd * wd) (max (T0 + x8) 1) w13 h8 hA (small_room (by have := HWW.out; omega)) (small_room (by have := HX.out; omega))).mono ?_
        rintro e' w14 ⟨vB, rfl, hB, hfx⟩
        replace hW := hW.fr hfx
        replace hT := hT.fr hfx
        replace hu := hu.fr hfx
        replace h8 := h8.fr hfx
        replace hA := hA.fr hfx
        replace hf := hf.step hfx hf.size (fun _ _ x => x)
        clear hfx
        clear h8 hA
        go_wp2_with fail
        have HY : Hid (wd * wd * max (T0 + x8) 1 ≤ 38400) := Nat.mul_le_mul HWW.out HX.out
        refine (num_any 200 w14 (by decide)).mono ?_
        rintro e' w15 ⟨vC, rfl, hC, hfx⟩
        replace hW := hW.fr hfx
        replace hT := hT.fr hfx
        replace hu := hu.fr hfx
        replace hB := hB.fr hfx
        replace hf := hf.step hfx hf.size (fun _ _ x => x)
        clear hfx
        go_wp2_with fail
        refine (divided_any vB (wd * wd * max (T0 + x8) 1) 3 w15 hB (small_room16 (by have := HY.out; omega)) (by decide) (by decide)).mono ?_
        rintro e' w16 ⟨vD, rfl, hD, hfx⟩
        replace hW := hW.fr hfx
        replace hT := hT.fr hfx
        replace hu := hu.fr hfx
        replace hB := hB.fr hfx
        replace hC := hC.fr hfx
        replace hf := hf.step hfx hf.size (fun _ _ x => x)
        clear hfx
        clear hB
        go_wp2_with fail
        refine (maxNat_any vC vD 200 (wd * wd * max (T0 + x8) 1 / 3) w16 hC hD).mono ?_
        rintro e' w17 ⟨vE, rfl, hE, hfx⟩
        replace hW := hW.fr hfx
        replace hT := hT.fr hfx
        replace hu := hu.fr hfx
        replace hC := hC.fr hfx
        replace hD := hD.fr hfx
        replace hf := hf.step hfx hf.size (fun _ _ x => x)
        clear hfx
        have hco : max 200 (wd * wd * max (T0 + x8) 1 / 3) = costN 5 I := by rw [HCost.out (), HTv.out (), HWv.out ()]
        rw [hco] at hE
        go_wp2_with fail
        go_ret2
        exact ⟨.inl ⟨HOK.out, _, rfl, hE⟩, hf⟩
      · have he' : ¬ (32 : Int) < (ee : Int) := by omega
        have HTb : Hid (T0 ≤ 599) := by unfold Hid; have := HT0.out; omega
        have HTv : Hid (∀ _ : Unit, turnsN I = T0) := fun _ => by rw [HTurn.out (), if_neg he32, HT0v.out (), Nat.add_zero]
        clear he32 HTurn HHead HHr HBl HHe HQ HK
        go_wp2_with fail
        refine (mulN_any vw vw wd wd w8 hW hW (small_room (by have := HWb.out; omega)) (small_room (by have := HWb.out; omega))).mono ?_
        rintro e' w9 ⟨v8, rfl, h8, hfx⟩
        replace hW := hW.fr hfx
        replace hT := hT.fr hfx
        replace hf := hf.step hfx hf.size (fun _ _ x => x)
        clear hfx
        go_wp2_with fail
        refine (num_any 1 w9 (by decide)).mono ?_
        rintro e' w10 ⟨v9, rfl, h9, hfx⟩
        replace hW := hW.fr hfx
        replace hT := hT.fr hfx
        replace h8 := h8.fr hfx
        replace hf := hf.step hfx hf.size (fun _ _ x => x)
        clear hfx
        go_wp2_with fail
        refine (maxNat_any (.slice none 0 0) v9 T0 1 w10 hT h9).mono ?_
        rintro e' w11 ⟨vA, rfl, hA, hfx⟩
        replace hW := hW.fr hfx
        replace hT := hT.fr hfx
        replace h8 := h8.fr hfx
        replace h9 := h9.fr hfx
        replace hf := hf.step hfx hf.size (fun _ _ x => x)
        clear hfx
        clear h9
        go_wp2_with fail
        have HX : Hid (max T0 1 ≤ 600) := by have := HTb.out; unfold Hid; omega
        refine (mulN_any v8 vA (wd * wd) (max T0 1) w11 h8 hA (small_room (by have := HWW.out; omega)) (small_room (by have := HX.out; omega))).mono ?_
        rintro e' w12 ⟨vB, rfl, hB, hfx⟩
        replace hW := hW.fr hfx
        replace hT := hT.fr hfx
        replace h8 := h8.fr hfx
        replace hA := hA.fr hfx
        replace hf := hf.step hfx hf.size (fun _ _ x => x)
        clear hfx
        clear h8 hA
        go_wp2_with fail
        have HY : Hid (wd * wd * max T0 1 ≤ 38400) := Nat.mul_le_mul HWW.out HX.out
        refine (num_any 200 w12 (by decide)).mono ?_
        rintro e' w13 ⟨vC, rfl, hC, hfx⟩
        replace hW := hW.fr hfx
        replace hT := hT.fr hfx
        replace hB := hB.fr hfx
        replace hf := hf.step hfx hf.size (fun _ _ x => x)
        clear hfx
        go_wp2_with fail
        refine (divided_any vB (wd * wd * max T0 1) 3 w13 hB (small_room16 (by have := HY.out; omega)) (by decide) (by decide)).mono ?_
        rintro e' w14 ⟨vD, rfl, hD, hfx⟩
        replace hW := hW.fr hfx
        replace hT := hT.fr hfx
        replace hB := hB.fr hfx
        replace hC := hC.fr hfx
        replace hf := hf.step hfx hf.size (fun _ _ x => x)
        clear hfx
        clear hB
        go_wp2_with fail
        refine (maxNat_any vC vD 200 (wd * wd * max T0 1 / 3) w14 hC hD).mono ?_
        rintro e' w15 ⟨vE, rfl, hE, hfx⟩
        replace hW := hW.fr hfx
        replace hT := hT.fr hfx
        replace hC := hC.fr hfx
        replace hD := hD.fr hfx
        replace hf := hf.step hfx hf.size (fun _ _ x => x)
        clear hfx
        have hco : max 200 (wd * wd * max T0 1 / 3) = costN 5 I := by rw [HCost.out (), HTv.out (), HWv.out ()]
        rw [hco] at hE
        go_wp2_with fail
        go_ret2
        exact ⟨.inl ⟨HOK.out, _, rfl, hE⟩, hf⟩
  · obtain ⟨hno, rfl⟩ := hcase
    have HNo : Hid (¬ lenOk I) := hno
    clear hno
    go_wp2_with fail
    go_ret2
    exact ⟨.inr ⟨HNo.out, rfl⟩, hf⟩
end Go.Proofs.YgcsanGreat
