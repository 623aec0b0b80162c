/-
  NativeCost once more: the result lies in new memory.
-/
import Derived.Test.YgcsanGreatNewC
import Derived.Test.YgcsanGreatYpC
namespace Go.Proofs.YgcsanGreat
open Go.RowKit
set_option linter.unusedSimpArgs false
set_option linter.unusedVariables false

theorem NewD.sl {B : Nat} {w : World} {v : Value} {l : List Nat} (h : NewD B w v l) : Sl w .u8 v l := by
  rcases h with ⟨rfl, a, c, rfl, hc⟩ | ⟨b, cap, T, M, rfl, h1, h2, h3, h4, h5⟩
  · exact ⟨a, c, rfl, Nat.zero_le _, hc, .inl rfl⟩
  · refine ⟨_, cap, rfl, h1, h2, .inr ⟨b, 0, rfl, fun i hi => ?_⟩⟩
    have hlM : l.length ≤ M.length := by
      have := congrArg List.length h5
      simp at this; omega
    have := h4.cell i (by omega)
    rw [Nat.zero_add, this]
    have e : M.getD i 0 = l.getD i 0 := by
      have e1 : M[i]? = l[i]? := by rw [← h5, List.getElem?_take_of_lt hi]
      simp only [List.getD, e1]
    rw [e]

set_option maxRecDepth 10000 in
set_option maxHeartbeats 400000 in
theorem maxNat_new (B : Nat) (va vb : Value) (a b : Nat) (w : World) (h1 : NewD B w va (digs a)) (h2 : NewD B w vb (digs b)) :
    Calls Sang.prog 153 #[va, vb] w fun e w' => ∃ v', e = .returned v' ∧ NewD B w' v' (digs (max a b)) ∧ Fr w.heap.size no w w' := by
  have hcm := cmp_any va vb _ _ w h1.sl (digs_dg _) h2.sl (digs_dg _)
  have H1 : Hid (NewD B w va (digs a)) := h1
  have H2 : Hid (NewD B w vb (digs b)) := h2
  clear h1 h2
  rw [val_digs, val_digs] at hcm
  by_cases hab : b < a
  · rw [cmpZ_gt hab] at hcm
    rw [show max a b = a by omega]
    clear hab
    go_enter Sang.func153, Sang.ntmps153
    go_wp2_with fail
    refine hcm.mono ?_
    rintro e w1 ⟨rfl, hf1⟩
    go_wp2_with fail
    go_ret
    exact ⟨_, rfl, H1.out.fr hf1, hf1⟩
  · have hle : ¬ (0 : Int) < cmpZ a b := by
      unfold cmpZ
      split
      · omega
      · first
          | omega
          | (split <;> omega)
    rw [show max a b = b by omega]
    clear hab
    generalize cmpZ a b = c at hcm hle
    go_enter Sang.func153, Sang.ntmps153
    go_wp2_with fail
    refine hcm.mono ?_
    rintro e w1 ⟨rfl, hf1⟩
    go_wp2_with fail
    go_ret
    exact ⟨_, rfl, H2.out.fr hf1, hf1⟩

set_option maxRecDepth 10000 in
set_option maxHeartbeats 400000 in
theorem divided_new (v : Value) (n d : Nat) (w : World) (h : Sl w .u8 v (digs n)) (hn : n < W64 ^ 16) (hd : d < W64) (h0 : d ≠ 0) :
    Calls Sang.prog 88 #[v, .int .u64 (d : Int)] w fun e w' => ∃ v', e = .returned v' ∧ NewD w.heap.size w' v' (digs (n / d)) ∧ Fr w.heap.size no w w' := by
  have H1 : Hid ((digs n).length ≤ 8388608) := Nat.le_trans (digs_room' _ 16 hn) (by decide)
  have H2 : Hid ((digs d).length ≤ 8388608) := Nat.le_trans (digs_room' _ 1 (by rw [Nat.pow_one]; exact hd)) (by decide)
  have HD : Hid (d < W64 ∧ d ≠ 0) := ⟨hd, h0⟩
  clear hn hd h0
  go_enter Sang.func88, Sang.ntmps88
  go_wp2_with fail
  refine (num_any d _ HD.out.1).mono ?_
  rintro e w1 ⟨v1, rfl, hv1, hf1⟩
  go_wp2_with fail
  refine (divMod_new v v1 _ _ w1 (h.fr hf1) (digs_dg _) hv1 (digs_dg _) H1.out H2.out (by rw [val_digs]; exact HD.out.2)).mono ?_
  rintro e w2 ⟨vq, vr, rfl, hq, hr, hf2⟩
  rw [val_digs, val_digs] at hq
  go_wp2_with fail
  go_ret
  exact ⟨_, rfl, hq.low hf1.size, hf1.step hf2 hf1.size (fun _ _ x => x)⟩

set_option maxRecDepth 10000 in
set_option maxHeartbeats 600000 in
theorem yCost_new (v : Value) (I : List Nat) (w : World) (h : Sl w .u8 v I) (hd : Dg 256 I) (sI : I.length ≤ 16777216) :
    Calls Sang.prog 143 #[.int .u8 5, v] w fun e w' => ((lenOk I ∧ ∃ v', e = .returned (.tuple #[v', .bool true]) ∧ NewD w.heap.size w' v' (digs (costN 5 I))) ∨ (¬ lenOk I ∧ e = .returned (.tuple #[.slice none 0 0, .bool false]))) ∧ Fr w.heap.size no w w' := by
  have HS : Hid (Sl w .u8 v I) := h
  have HD : Hid (Dg 256 I) := hd
  have hlen := ypLengths_any v I w h hd sI
  clear h hd
  go_enter Sang.func143, Sang.ntmps143
  go_wp2_with fail
  refine hlen.mono ?_
  clear hlen
  rintro e w0 ⟨hcase | hcase, hf⟩
  · obtain ⟨hok, rfl⟩ := hcase
    have HOK : Hid (lenOk I) := hok
    have HB0 : Hid (lenI I 0 ≤ 64) := hok 0 (by omega)
    have HB1 : Hid (lenI I 1 ≤ 64) := hok 1 (by omega)
    have HB2 : Hid (lenI I 2 ≤ 64) := hok 2 (by omega)
    have HCost : Hid (∀ _ : Unit, costN 5 I = max 200 ((max (lenI I 0) (lenI I 2) + 7) / 8 * ((max (lenI I 0) (lenI I 2) + 7) / 8) * max (turnsN I) 1 / 3)) := fun _ => rfl
    have HTurn : Hid (∀ _ : Unit, turnsN I = (blen (headN I) - 1) + (if 32 < lenI I 1 then 8 * (lenI I 1 - 32) else 0)) := fun _ => rfl
    have HHead : Hid (∀ _ : Unit, headN I = be (partB I (96 + lenI I 0) (min (lenI I 1) 32))) := fun _ => rfl
    have HHr : Hid (∀ _ : Unit, headN I < W64 ^ 4) := fun _ => headN_room HD.out
    have HBl : Hid (∀ _ : Unit, blen (headN I) ≤ 256) := fun _ => blen_le (HHr.out ())
    generalize lenI I 0 = b at *
    generalize lenI I 1 = ee at *
    generalize lenI I 2 = m at *
    have hb0 : (b : Int) ≤ 64 := by have := HB0.out; omega
    have he0 : (ee : Int) ≤ 64 := by have := HB1.out; omega
    have hm0 : (m : Int) ≤ 64 := by have := HB2.out; omega
    clear hok
    obtain ⟨wd, HWv⟩ : ∃ wd : Nat, Hid (∀ _ : Unit, (max b m + 7) / 8 = wd) := ⟨_, fun _ => rfl⟩
    have HWb : Hid (wd ≤ 8) := by unfold Hid; rw [← HWv.out ()]; omega
    obtain ⟨q, HQ⟩ : ∃ q : Nat, Hid (∀ _ : Unit, q = 96 + b) := ⟨_, fun _ => rfl⟩
    have eQ : (96 : Int) + (b : Int) = (q : Int) := by rw [HQ.out ()]; omega
    have hQ : (q : Int) ≤ 160 := by rw [HQ.out ()]; omega
    obtain ⟨k, HK⟩ : ∃ k : Nat, Hid (∀ _ : Unit, k = min ee 32) := ⟨_, fun _ => rfl⟩
    have eK : min (ee : Int) 32 = (k : Int) := by rw [HK.out ()]; omega
    have hK : (k : Int) ≤ 32 := by rw [HK.out ()]; omega
    have HHe : Hid (∀ _ : Unit, be (partB I q k) = headN I) := fun _ => by rw [HHead.out (), HQ.out (), HK.out ()]
    go_wp2_with fail
    refine (num_any b w0 (small_W64 (by omega))).mono ?_
    rintro e' w1 ⟨v1, rfl, h1, hfx⟩
    replace hf := hf.step hfx hf.size (fun _ _ x => x)
    clear hfx
    go_wp2_with fail
    refine (num_any m w1 (small_W64 (by omega))).mono ?_
    rintro e' w2 ⟨v2, rfl, h2, hfx⟩
    replace h1 := h1.fr hfx
    replace hf := hf.step hfx hf.size (fun _ _ x => x)
    clear hfx
    go_wp2_with fail
    refine (maxNat_any v1 v2 b m w2 h1 h2).mono ?_
    rintro e' w3 ⟨v3, rfl, h3, hfx⟩
    replace h1 := h1.fr hfx
    replace h2 := h2.fr hfx
    replace hf := hf.step hfx hf.size (fun _ _ x => x)
    clear hfx
    clear h1 h2
    go_wp2_with fail
    refine (num_any 7 w3 (by decide)).mono ?_
    rintro e' w4 ⟨v4, rfl, h4, hfx⟩
    replace h3 := h3.fr hfx
    replace hf := hf.step hfx hf.size (fun _ _ x => x)
    clear hfx
    go_wp2_with fail
    refine (addN_any v3 v4 (max b m) 7 w4 h3 h4 (small_room (by omega)) (by decide)).mono ?_
    rintro e' w5 ⟨v5, rfl, h5, hfx⟩
    replace h3 := h3.fr hfx
    replace h4 := h4.fr hfx
    replace hf := hf.step hfx hf.size (fun _ _ x => x)
    clear hfx
    clear h3 h4
    go_wp2_with fail
    refine (divided_any v5 (max b m + 7) 8 w5 h5 (small_room16 (by omega)) (by decide) (by decide)).mono ?_
    rintro e' w6 ⟨vw, rfl, hW, hfx⟩
    replace h5 := h5.fr hfx
    replace hf := hf.step hfx hf.size (fun _ _ x => x)
    clear hfx
    rw [HWv.out ()] at hW
    clear h5
    go_wp2_with fail
    refine (ypPart_any v I q k w6 (HS.out.fr hf) sI (by omega) (by omega)).mono ?_
    rintro e' w7 ⟨v6, rfl, h6, hfx⟩
    replace hW := hW.fr hfx
    replace hf := hf.step hfx hf.size (fun _ _ x => x)
    clear hfx
    go_wp2_with fail
    refine (fromBE_Sl v6 _ w7 h6 (partB_dg HD.out _ _) (by rw [partB_length]; omega)).mono ?_
    rintro e' w8 ⟨v7, rfl, h7, hfx⟩
    replace hW := hW.fr hfx
    replace h6 := h6.fr hfx
    replace hf := hf.step hfx hf.size (fun _ _ x => x)
    clear hfx
    rw [HHe.out ()] at h7
    clear h6
    go_wp2_with fail
    have hbits := bits_any v7 (digs (headN I)) (headN I) w8 h7 (digs_dg _) (val_digs _) (Nat.le_trans (digs_room _ 4 (HHr.out ())) (by decide))
    rw [show bitsF (headN I) (8 * (digs (headN I)).length) = blen (headN I) from rfl] at hbits
    refine hbits.mono ?_
    clear hbits
    rintro e' w8 ⟨rfl, rfl⟩
    clear h7
    generalize blen (headN I) = nb at *
    have hnb : (nb : Int) ≤ 256 := by have := HBl.out (); omega
    have HWW : Hid (wd * wd ≤ 64) := by
      have h1 : wd * wd ≤ 8 * 8 := Nat.mul_le_mul HWb.out HWb.out
      exact h1
    by_cases hn1 : 1 < nb
    · have hn1' : (1 : Int) < (nb : Int) := by omega
      obtain ⟨T0, HT0e⟩ : ∃ T0 : Nat, Hid (∀ _ : Unit, T0 = nb - 1) := ⟨_, fun _ => rfl⟩
      have eT0 : (nb : Int) - 1 = (T0 : Int) := by rw [HT0e.out ()]; omega
      have HT0 : Hid (T0 ≤ 255) := by unfold Hid; rw [HT0e.out ()]; have := HBl.out (); omega
      have HT0v : Hid (∀ _ : Unit, nb - 1 = T0) := fun _ => by rw [HT0e.out ()]
      clear hn1
      go_wp2_with fail
      refine (num_any T0 w8 (small_W64 (by have := HT0.out; omega))).mono ?_
      rintro e' w9 ⟨vT, rfl, hT, hfx⟩
      replace hW := hW.fr hfx
      replace hf := hf.step hfx hf.size (fun _ _ x => x)
      clear hfx
      by_cases he32 : 32 < ee
      · have he' : (32 : Int) < (ee : Int) := by omega
        obtain ⟨x8, HX8⟩ : ∃ x8 : Nat, Hid (∀ _ : Unit, 8 * (ee - 32) = x8) := ⟨_, fun _ => rfl⟩
        have e8 : 8 * ((ee : Int) - 32) = (x8 : Int) := by rw [← HX8.out ()]; omega
        have hx8 : (x8 : Int) ≤ 256 := by rw [← HX8.out ()]; omega
        have HTb : Hid (T0 + x8 ≤ 599) := by unfold Hid; have := HT0.out; omega
        have HTv : Hid (∀ _ : Unit, turnsN I = T0 + x8) := fun _ => by rw [HTurn.out (), if_pos he32, HT0v.out (), HX8.out ()]
        clear he32 HTurn HHead HHr HBl HHe HQ HK
        go_wp2_with fail
        refine (num_any x8 w9 (small_W64 (by omega))).mono ?_
        rintro e' w10 ⟨vt, rfl, ht, hfx⟩
        replace hW := hW.fr hfx
        replace hT := hT.fr hfx
        replace hf := hf.step hfx hf.size (fun _ _ x => x)
        clear hfx
        go_wp2_with fail
        refine (addN_any vT vt T0 x8 w10 hT ht (small_room (by have := HT0.out; omega)) (small_room (by omega))).mono ?_
        rintro e' w11 ⟨vu, rfl, hu, hfx⟩
        replace hW := hW.fr hfx
        replace hT := hT.fr hfx
        replace ht := ht.fr hfx
        replace hf := hf.step hfx hf.size (fun _ _ x => x)
        clear hfx
        clear ht
        go_wp2_with fail
        refine (mulN_any vw vw wd wd w11 hW hW (small_room (by have := HWb.out; omega)) (small_room (by have := HWb.out; omega))).mono ?_
        rintro e' w12 ⟨v8, rfl, h8, hfx⟩
        replace hW := hW.fr hfx
        replace hT := hT.fr hfx
        replace hu := hu.fr hfx
        replace hf := hf.step hfx hf.size (fun _ _ x => x)
        clear hfx
        go_wp2_with fail
        refine (num_any 1 w12 (by decide)).mono ?_
        rintro e' w13 ⟨v9, rfl, h9, hfx⟩
        replace hW := hW.fr hfx
        replace hT := hT.fr hfx
        replace hu := hu.fr hfx
        replace h8 := h8.fr hfx
        replace hf := hf.step hfx hf.size (fun _ _ x => x)
        clear hfx
        go_wp2_with fail
        refine (maxNat_any vu v9 (T0 + x8) 1 w13 hu h9).mono ?_
        rintro e' w14 ⟨vA, rfl, hA, hfx⟩
        replace hW := hW.fr hfx
        replace hT := hT.fr hfx
        replace hu := hu.fr hfx
        replace h8 := h8.fr hfx
        replace h9 := h9.fr hfx
        replace hf := hf.step hfx hf.size (fun _ _ x => x)
        clear hfx
        clear h9
        go_wp2_with fail
        have HX : Hid (max (T0 + x8) 1 ≤ 600) := by have := HTb.out; unfold Hid; omega
        refine (mulN_any v8 vA (wd * wd) (max (T0 + x8) 1) w14 h8 hA (small_room (by have := HWW.out; omega)) (small_room (by have := HX.out; omega))).mono ?_
        rintro e' w15 ⟨vB, rfl, hB, hfx⟩
        replace hW := hW.fr hfx
        replace hT := hT.fr hfx
        replace hu := hu.fr hfx
        replace h8 := h8.fr hfx
        replace hA := hA.fr hfx
        replace hf := hf.step hfx hf.size (fun _ _ x => x)
        clear hfx
        clear h8 hA
        go_wp2_with fail
        have HY : Hid (wd * wd * max (T0 + x8) 1 ≤ 38400) := Nat.mul_le_mul HWW.out HX.out
        refine (num_new 200 w15 (by decide)).mono ?_
        rintro e' w16 ⟨vC, rfl, hC, hfx⟩
        replace hC := hC.low hf.size
        replace hW := hW.fr hfx
        replace hT := hT.fr hfx
        replace hu := hu.fr hfx
        replace hB := hB.fr hfx
        replace hf := hf.step hfx hf.size (fun _ _ x => x)
        clear hfx
        go_wp2_with fail
        refine (divided_new vB (wd * wd * max (T0 + x8) 1) 3 w16 hB (small_room16 (by have := HY.out; omega)) (by decide) (by decide)).mono ?_
        rintro e' w17 ⟨vD, rfl, hD, hfx⟩
        replace hD := hD.low hf.size
        replace hW := hW.fr hfx
        replace hT := hT.fr hfx
        replace hu := hu.fr hfx
        replace hB := hB.fr hfx
        replace hC := hC.fr hfx
        replace hf := hf.step hfx hf.size (fun _ _ x => x)
        clear hfx
        clear hB
        go_wp2_with fail
        refine (maxNat_new w.heap.size vC vD 200 (wd * wd * max (T0 + x8) 1 / 3) w17 hC hD).mono ?_
        rintro e' w18 ⟨vE, rfl, hE, hfx⟩
        replace hW := hW.fr hfx
        replace hT := hT.fr hfx
        replace hu := hu.fr hfx
        replace hC := hC.fr hfx
        replace hD := hD.fr hfx
        replace hf := hf.step hfx hf.size (fun _ _ x => x)
        clear hfx
        have hco : max 200 (wd * wd * max (T0 + x8) 1 / 3) = costN 5 I := by rw [HCost.out (), HTv.out (), HWv.out ()]
        rw [hco] at hE
        go_wp2_with fail
        go_ret2
        exact ⟨.inl ⟨HOK.out, _, rfl, hE⟩, hf⟩
      · have he' : ¬ (32 : Int) < (ee : Int) := by omega
        have HTb : Hid (T0 ≤ 599) := by unfold Hid; have := HT0.out; omega
        have HTv : Hid (∀ _ : Unit, turnsN I = T0) := fun _ => by rw [HTurn.out (), if_neg he32, HT0v.out (), Nat.add_zero]
        clear he32 HTurn HHead HHr HBl HHe HQ HK
        go_wp2_with fail
        refine (mulN_any vw vw wd wd w9 hW hW (small_room (by have := HWb.out; omega)) (small_room (by have := HWb.out; omega))).mono ?_
        rintro e' w10 ⟨v8, rfl, h8, hfx⟩
        replace hW := hW.fr hfx
        replace hT := hT.fr hfx
        replace hf := hf.step hfx hf.size (fun _ _ x => x)
        clear hfx
        go_wp2_with fail
        refine (num_any 1 w10 (by decide)).mono ?_
        rintro e' w11 ⟨v9, rfl, h9, hfx⟩
        replace hW := hW.fr hfx
        replace hT := hT.fr hfx
        replace h8 := h8.fr hfx
        replace hf := hf.step hfx hf.size (fun _ _ x => x)
        clear hfx
        go_wp2_with fail
        refine (maxNat_any vT v9 T0 1 w11 hT h9).mono ?_
        rintro e' w12 ⟨vA, rfl, hA, hfx⟩
        replace hW := hW.fr hfx
        replace hT := hT.fr hfx
        replace h8 := h8.fr hfx
        replace h9 := h9.fr hfx
        replace hf := hf.step hfx hf.size (fun _ _ x => x)
        clear hfx
        clear h9
        go_wp2_with fail
        have HX : Hid (max T0 1 ≤ 600) := by have := HTb.out; unfold Hid; omega
        refine (mulN_any v8 vA (wd * wd) (max T0 1) w12 h8 hA (small_room (by have := HWW.out; omega)) (small_room (by have := HX.out; omega))).mono ?_
        rintro e' w13 ⟨vB, rfl, hB, hfx⟩
        replace hW := hW.fr hfx
        replace hT := hT.fr hfx
        replace h8 := h8.fr hfx
        replace hA := hA.fr hfx
        replace hf := hf.step hfx hf.size (fun _ _ x => x)
        clear hfx
        clear h8 hA
        go_wp2_with fail
        have HY : Hid (wd * wd * max T0 1 ≤ 38400) := Nat.mul_le_mul HWW.out HX.out
        refine (num_new 200 w13 (by decide)).mono ?_
        rintro e' w14 ⟨vC, rfl, hC, hfx⟩
        replace hC := hC.low hf.size
        replace hW := hW.fr hfx
        replace hT := hT.fr hfx
        replace hB := hB.fr hfx
        replace hf := hf.step hfx hf.size (fun _ _ x => x)
        clear hfx
        go_wp2_with fail
        refine (divided_new vB (wd * wd * max T0 1) 3 w14 hB (small_room16 (by have := HY.out; omega)) (by decide) (by decide)).mono ?_
        rintro e' w15 ⟨vD, rfl, hD, hfx⟩
        replace hD := hD.low hf.size
        replace hW := hW.fr hfx
        replace hT := hT.fr hfx
        replace hB := hB.fr hfx
        replace hC := hC.fr hfx
        replace hf := hf.step hfx hf.size (fun _ _ x => x)
        clear hfx
        clear hB
        go_wp2_with fail
        refine (maxNat_new w.heap.size vC vD 200 (wd * wd * max T0 1 / 3) w15 hC hD).mono ?_
        rintro e' w16 ⟨vE, rfl, hE, hfx⟩
        replace hW := hW.fr hfx
        replace hT := hT.fr hfx
        replace hC := hC.fr hfx
        replace hD := hD.fr hfx
        replace hf := hf.step hfx hf.size (fun _ _ x => x)
        clear hfx
        have hco : max 200 (wd * wd * max T0 1 / 3) = costN 5 I := by rw [HCost.out (), HTv.out (), HWv.out ()]
        rw [hco] at hE
        go_wp2_with fail
        go_ret2
        exact ⟨.inl ⟨HOK.out, _, rfl, hE⟩, hf⟩
    · have hn1' : ¬ (1 : Int) < (nb : Int) := by omega
      obtain ⟨T0, HT0e⟩ : ∃ T0 : Nat, Hid (∀ _ : Unit, T0 = 0) := ⟨_, fun _ => rfl⟩
      have HT0 : Hid (T0 ≤ 255) := by unfold Hid; rw [HT0e.out ()]; omega
      have HT0v : Hid (∀ _ : Unit, nb - 1 = T0) := fun _ => by rw [HT0e.out ()]; omega
      have hT : Sl w8 .u8 (.slice none 0 0) (digs T0) := by rw [HT0e.out ()]; exact Sl.nil _ _
      clear hn1
      by_cases he32 : 32 < ee
      · have he' : (32 : Int) < (ee : Int) := by omega
        obtain ⟨x8, HX8⟩ : ∃ x8 : Nat, Hid (∀ _ : Unit, 8 * (ee - 32) = x8) := ⟨_, fun _ => rfl⟩
        have e8 : 8 * ((ee : Int) - 32) = (x8 : Int) := by rw [← HX8.out ()]; omega
        have hx8 : (x8 : Int) ≤ 256 := by rw [← HX8.out ()]; omega
        have HTb : Hid (T0 + x8 ≤ 599) := by unfold Hid; have := HT0.out; omega
        have HTv : Hid (∀ _ : Unit, turnsN I = T0 + x8) := fun _ => by rw [HTurn.out (), if_pos he32, HT0v.out (), HX8.out ()]
        clear he32 HTurn HHead HHr HBl HHe HQ HK
        go_wp2_with fail
        refine (num_any x8 w8 (small_W64 (by omega))).mono ?_
        rintro e' w9 ⟨vt, rfl, ht, hfx⟩
        replace hW := hW.fr hfx
        replace hT := hT.fr hfx
        replace hf := hf.step hfx hf.size (fun _ _ x => x)
        clear hfx
        go_wp2_with fail
        refine (addN_any (.slice none 0 0) vt T0 x8 w9 hT ht (small_room (by have := HT0.out; omega)) (small_room (by omega))).mono ?_
        rintro e' w10 ⟨vu, rfl, hu, hfx⟩
        replace hW := hW.fr hfx
        replace hT := hT.fr hfx
        replace ht := ht.fr hfx
        replace hf := hf.step hfx hf.size (fun _ _ x => x)
        clear hfx
        clear ht
        go_wp2_with fail
        refine (mulN_any vw vw wd wd w10 hW hW (small_room (by have := HWb.out; omega)) (small_room (by have := HWb.out; omega))).mono ?_
        rintro e' w11 ⟨v8, rfl, h8, hfx⟩
        replace hW := hW.fr hfx
        replace hT := hT.fr hfx
        replace hu := hu.fr hfx
        replace hf := hf.step hfx hf.size (fun _ _ x => x)
        clear hfx
        go_wp2_with fail
        refine (num_any 1 w11 (by decide)).mono ?_
        rintro e' w12 ⟨v9, rfl, h9, hfx⟩
        replace hW := hW.fr hfx
        replace hT := hT.fr hfx
        replace hu := hu.fr hfx
        replace h8 := h8.fr hfx
        replace hf := hf.step hfx hf.size (fun _ _ x => x)
        clear hfx
        go_wp2_with fail
        refine (maxNat_any vu v9 (T0 + x8) 1 w12 hu h9).mono ?_
        rintro e' w13 ⟨vA, rfl, hA, hfx⟩
        replace hW := hW.fr hfx
        replace hT := hT.fr hfx
        replace hu := hu.fr hfx
        replace h8 := h8.fr hfx
        replace h9 := h9.fr hfx
        replace hf := hf.step hfx hf.size (fun _ _ x => x)
        clear hfx
        clear h9
        go_wp2_with fail
        have HX : Hid (max (T0 + x8) 1 ≤ 600) := by have := HTb.out; unfold Hid; omega
        refine (mulN_any v8 vA (wd * wd) (max (T0 + x8) 1) w13 h8 hA (small_room (by have := HWW.out; omega)) (small_room (by have := HX.out; omega))).mono ?_
        rintro e' w14 ⟨vB, rfl, hB, hfx⟩
        replace hW := hW.fr hfx
        replace hT := hT.fr hfx
        replace hu := hu.fr hfx
        replace h8 := h8.fr hfx
        replace hA := hA.fr hfx
        replace hf := hf.step hfx hf.size (fun _ _ x => x)
        clear hfx
        clear h8 hA
        go_wp2_with fail
        have HY : Hid (wd * wd * max (T0 + x8) 1 ≤ 38400) := Nat.mul_le_mul HWW.out HX.out
        refine (num_new 200 w14 (by decide)).mono ?_
        rintro e' w15 ⟨vC, rfl, hC, hfx⟩
        replace hC := hC.low hf.size
        replace hW := hW.fr hfx
        replace hT := hT.fr hfx
        replace hu := hu.fr hfx
        replace hB := hB.fr hfx
        replace hf := hf.step hfx hf.size (fun _ _ x => x)
        clear hfx
        go_wp2_with fail
        refine (divided_new vB (wd * wd * max (T0 + x8) 1) 3 w15 hB (small_room16 (by have := HY.out; omega)) (by decide) (by decide)).mono ?_
        rintro e' w16 ⟨vD, rfl, hD, hfx⟩
        replace hD := hD.low hf.size
        replace hW := hW.fr hfx
        replace hT := hT.fr hfx
        replace hu := hu.fr hfx
        replace hB := hB.fr hfx
        replace hC := hC.fr hfx
        replace hf := hf.step hfx hf.size (fun _ _ x => x)
        clear hfx
        clear hB
        go_wp2_with fail
        refine (maxNat_new w.heap.size vC vD 200 (wd * wd * max (T0 + x8) 1 / 3) w16 hC hD).mono ?_
        rintro e' w17 ⟨vE, rfl, hE, hfx⟩
        replace hW := hW.fr hfx
        replace hT := hT.fr hfx
        replace hu := hu.fr hfx
        replace hC := hC.fr hfx
        replace hD := hD.fr hfx
        replace hf := hf.step hfx hf.size (fun _ _ x => x)
        clear hfx
        have hco : max 200 (wd * wd * max (T0 + x8) 1 / 3) = costN 5 I := by rw [HCost.out (), HTv.out (), HWv.out ()]
        rw [hco] at hE
        go_wp2_with fail
        go_ret2
        exact ⟨.inl ⟨HOK.out, _, rfl, hE⟩, hf⟩
      · have he' : ¬ (32 : Int) < (ee : Int) := by omega
        have HTb : Hid (T0 ≤ 599) := by unfold Hid; have := HT0.out; omega
        have HTv : Hid (∀ _ : Unit, turnsN I = T0) := fun _ => by rw [HTurn.out (), if_neg he32, HT0v.out (), Nat.add_zero]
        clear he32 HTurn HHead HHr HBl HHe HQ HK
        go_wp2_with fail
        refine (mulN_any vw vw wd wd w8 hW hW (small_room (by have := HWb.out; omega)) (small_room (by have := HWb.out; omega))).mono ?_
        rintro e' w9 ⟨v8, rfl, h8, hfx⟩
        replace hW := hW.fr hfx
        replace hT := hT.fr hfx
        replace hf := hf.step hfx hf.size (fun _ _ x => x)
        clear hfx
        go_wp2_with fail
        refine (num_any 1 w9 (by decide)).mono ?_
        rintro e' w10 ⟨v9, rfl, h9, hfx⟩
        replace hW := hW.fr hfx
        replace hT := hT.fr hfx
        replace h8 := h8.fr hfx
        replace hf := hf.step hfx hf.size (fun _ _ x => x)
        clear hfx
        go_wp2_with fail
        refine (maxNat_any (.slice none 0 0) v9 T0 1 w10 hT h9).mono ?_
        rintro e' w11 ⟨vA, rfl, hA, hfx⟩
        replace hW := hW.fr hfx
        replace hT := hT.fr hfx
        replace h8 := h8.fr hfx
        replace h9 := h9.fr hfx
        replace hf := hf.step hfx hf.size (fun _ _ x => x)
        clear hfx
        clear h9
        go_wp2_with fail
        have HX : Hid (max T0 1 ≤ 600) := by have := HTb.out; unfold Hid; omega
        refine (mulN_any v8 vA (wd * wd) (max T0 1) w11 h8 hA (small_room (by have := HWW.out; omega)) (small_room (by have := HX.out; omega))).mono ?_
        rintro e' w12 ⟨vB, rfl, hB, hfx⟩
        replace hW := hW.fr hfx
        replace hT := hT.fr hfx
        replace h8 := h8.fr hfx
        replace hA := hA.fr hfx
        replace hf := hf.step hfx hf.size (fun _ _ x => x)
        clear hfx
        clear h8 hA
        go_wp2_with fail
        have HY : Hid (wd * wd * max T0 1 ≤ 38400) := Nat.mul_le_mul HWW.out HX.out
        refine (num_new 200 w12 (by decide)).mono ?_
        rintro e' w13 ⟨vC, rfl, hC, hfx⟩
        replace hC := hC.low hf.size
        replace hW := hW.fr hfx
        replace hT := hT.fr hfx
        replace hB := hB.fr hfx
        replace hf := hf.step hfx hf.size (fun _ _ x => x)
        clear hfx
        go_wp2_with fail
        refine (divided_new vB (wd * wd * max T0 1) 3 w13 hB (small_room16 (by have := HY.out; omega)) (by decide) (by decide)).mono ?_
        rintro e' w14 ⟨vD, rfl, hD, hfx⟩
        replace hD := hD.low hf.size
        replace hW := hW.fr hfx
        replace hT := hT.fr hfx
        replace hB := hB.fr hfx
        replace hC := hC.fr hfx
        replace hf := hf.step hfx hf.size (fun _ _ x => x)
        clear hfx
        clear hB
        go_wp2_with fail
        refine (maxNat_new w.heap.size vC vD 200 (wd * wd * max T0 1 / 3) w14 hC hD).mono ?_
        rintro e' w15 ⟨vE, rfl, hE, hfx⟩
        replace hW := hW.fr hfx
        replace hT := hT.fr hfx
        replace hC := hC.fr hfx
        replace hD := hD.fr hfx
        replace hf := hf.step hfx hf.size (fun _ _ x => x)
        clear hfx
        have hco : max 200 (wd * wd * max T0 1 / 3) = costN 5 I := by rw [HCost.out (), HTv.out (), HWv.out ()]
        rw [hco] at hE
        go_wp2_with fail
        go_ret2
        exact ⟨.inl ⟨HOK.out, _, rfl, hE⟩, hf⟩
  · obtain ⟨hno, rfl⟩ := hcase
    have HNo : Hid (¬ lenOk I) := hno
    clear hno
    go_wp2_with fail
    go_ret2
    exact ⟨.inr ⟨HNo.out, rfl⟩, hf⟩
end Go.Proofs.YgcsanGreat
