/-
  modExpWant, NativeRun once more: the results lie in new memory.
-/
import Derived.Test.YgcsanGreatNewJ
import Derived.Test.YgcsanGreatNewH
namespace Go.Proofs.YgcsanGreat
open Go.RowKit
set_option linter.unusedSimpArgs false
set_option linter.unusedVariables false

theorem wantN_ok (lb le lm b e m : Nat) (w : World) (h0 : lb ≤ 64) (h1 : le ≤ 64) (h2 : lm ≤ 64) (hb : b < 256) (he : e < 256) (hm : m < 256) :
    Calls Sang.prog 39 #[.int .u8 (lb : Int), .int .u8 (le : Int), .int .u8 (lm : Int), .int .u8 (b : Int), .int .u8 (e : Int), .int .u8 (m : Int)] w fun e' w' =>
      ∃ v', e' = .returned (.tuple #[v', .int .u64 (costN 5 (mxIn lb le lm b e m) : Nat), .bool true]) ∧ NewD w.heap.size w' v' (outN (mxIn lb le lm b e m)) ∧ Fr w.heap.size no w w' := by
  rw [mx_cost, mx_want _ _ _ _ _ _ hm]
  by_cases a : lb = 0
  · rw [if_pos a]
    by_cases z : le = 0
    · rw [if_pos z, if_neg (show ¬ 32 < le by omega)]
      by_cases l : lm = 0
      · exact wantN_azl lb le lm b e m w h0 h1 h2 hb he hm a z l
      by_cases r : m = 0
      · exact wantN_azm lb le lm b e m w h0 h1 h2 hb he hm a z ⟨by omega, r⟩
      · exact wantN_azr lb le lm b e m w h0 h1 h2 hb he hm a z ⟨by omega, by omega⟩
    · rw [if_neg z]
      by_cases s : 32 < le
      · rw [if_pos s]
        by_cases l : lm = 0
        · exact wantN_abl lb le lm b e m w h0 h1 h2 hb he hm a s l
        by_cases r : m = 0
        · exact wantN_abm lb le lm b e m w h0 h1 h2 hb he hm a s ⟨by omega, r⟩
        · exact wantN_abr lb le lm b e m w h0 h1 h2 hb he hm a s ⟨by omega, by omega⟩
      · rw [if_neg s]
        by_cases l : lm = 0
        · exact wantN_asl lb le lm b e m w h0 h1 h2 hb he hm a ⟨by omega, by omega⟩ l
        by_cases r : m = 0
        · exact wantN_asm lb le lm b e m w h0 h1 h2 hb he hm a ⟨by omega, by omega⟩ ⟨by omega, r⟩
        · exact wantN_asr lb le lm b e m w h0 h1 h2 hb he hm a ⟨by omega, by omega⟩ ⟨by omega, by omega⟩
  · rw [if_neg a]
    replace a : 0 < lb := by omega
    by_cases z : le = 0
    · rw [if_pos z, if_neg (show ¬ 32 < le by omega)]
      by_cases l : lm = 0
      · exact wantN_bzl lb le lm b e m w h0 h1 h2 hb he hm a z l
      by_cases r : m = 0
      · exact wantN_bzm lb le lm b e m w h0 h1 h2 hb he hm a z ⟨by omega, r⟩
      · exact wantN_bzr lb le lm b e m w h0 h1 h2 hb he hm a z ⟨by omega, by omega⟩
    · rw [if_neg z]
      by_cases s : 32 < le
      · rw [if_pos s]
        by_cases l : lm = 0
        · exact wantN_bbl lb le lm b e m w h0 h1 h2 hb he hm a s l
        by_cases r : m = 0
        · exact wantN_bbm lb le lm b e m w h0 h1 h2 hb he hm a s ⟨by omega, r⟩
        · exact wantN_bbr lb le lm b e m w h0 h1 h2 hb he hm a s ⟨by omega, by omega⟩
      · rw [if_neg s]
        by_cases l : lm = 0
        · exact wantN_bsl lb le lm b e m w h0 h1 h2 hb he hm a ⟨by omega, by omega⟩ l
        by_cases r : m = 0
        · exact wantN_bsm lb le lm b e m w h0 h1 h2 hb he hm a ⟨by omega, by omega⟩ ⟨by omega, r⟩
        · exact wantN_bsr lb le lm b e m w h0 h1 h2 hb he hm a ⟨by omega, by omega⟩ ⟨by omega, by omega⟩

set_option maxRecDepth 10000 in
set_option maxHeartbeats 600000 in
theorem yRun_new (v : Value) (I : List Nat) (w : World) (h : Sl w .u8 v I) (hd : Dg 256 I) (sI : I.length ≤ 16777216) (hOK : lenOk I) :
    Calls Sang.prog 144 #[.int .u8 5, v] w fun e w' => ∃ v', e = .returned v' ∧ NewD w.heap.size w' v' (outN I) ∧ Fr w.heap.size no w w' := by
  obtain ⟨i5, hi5, hz5, hs5, hb5⟩ := info_parts info5
  have HS : Hid (Sl w .u8 v I) := h
  have HD : Hid (Dg 256 I) := hd
  have HOK : Hid (lenOk I) := hOK
  have hlen := ypLengths_any v I w h hd sI
  clear h hd hOK
  go_enter Sang.func144, Sang.ntmps144
  go_wp2_with fail
  refine hlen.mono ?_
  clear hlen
  rintro e w0 ⟨hcase | hcase, hf⟩
  · obtain ⟨hok, rfl⟩ := hcase
    have HB0 : Hid (lenI I 0 ≤ 64) := hok 0 (by omega)
    have HB1 : Hid (lenI I 1 ≤ 64) := hok 1 (by omega)
    have HB2 : Hid (lenI I 2 ≤ 64) := hok 2 (by omega)
    have HOut : Hid (∀ _ : Unit, outN I = (limbs 256 (lenI I 2) (powF (baseN I) (expoN I) (modN I))).reverse) := fun _ => rfl
    have HBa : Hid (∀ _ : Unit, be (partB I 96 (lenI I 0)) = baseN I) := fun _ => rfl
    have HEx : Hid (∀ _ : Unit, be (partB I (96 + lenI I 0) (lenI I 1)) = expoN I) := fun _ => rfl
    have HMo : Hid (∀ _ : Unit, be (partB I (96 + lenI I 0 + lenI I 1) (lenI I 2)) = modN I) := fun _ => rfl
    have HPr : Hid (∀ _ : Unit, powF (baseN I) (expoN I) (modN I) < 256 ^ lenI I 2) := fun _ => pow_bytes HD.out _ _ _ _
    clear hok
    generalize lenI I 0 = nb at *
    generalize lenI I 1 = ne at *
    generalize lenI I 2 = nm at *
    have hb0 : (nb : Int) ≤ 64 := by have := HB0.out; omega
    have he0 : (ne : Int) ≤ 64 := by have := HB1.out; omega
    have hm0 : (nm : Int) ≤ 64 := by have := HB2.out; omega
    obtain ⟨q1, HQ1⟩ : ∃ q : Nat, Hid (∀ _ : Unit, q = 96 + nb) := ⟨_, fun _ => rfl⟩
    have eQ1 : (96 : Int) + (nb : Int) = (q1 : Int) := by rw [HQ1.out ()]; omega
    have hQ1 : (q1 : Int) ≤ 160 := by rw [HQ1.out ()]; omega
    obtain ⟨q2, HQ2⟩ : ∃ q : Nat, Hid (∀ _ : Unit, q = 96 + nb + ne) := ⟨_, fun _ => rfl⟩
    have eQ2 : (q1 : Int) + (ne : Int) = (q2 : Int) := by rw [HQ2.out (), HQ1.out ()]; omega
    have hQ2 : (q2 : Int) ≤ 224 := by rw [HQ2.out ()]; omega
    have HrB : Hid (baseN I < W64 ^ 8) := by unfold Hid; rw [← HBa.out ()]; exact operand_room HD.out _ _ HB0.out
    have HrE : Hid (expoN I < W64 ^ 8) := by unfold Hid; rw [← HEx.out ()]; exact operand_room HD.out _ _ HB1.out
    have HrM : Hid (modN I < W64 ^ 8) := by unfold Hid; rw [← HMo.out ()]; exact operand_room HD.out _ _ HB2.out
    have HEx' : Hid (∀ _ : Unit, be (partB I q1 ne) = expoN I) := fun _ => by rw [HQ1.out (), HEx.out ()]
    have HMo' : Hid (∀ _ : Unit, be (partB I q2 nm) = modN I) := fun _ => by rw [HQ2.out (), HMo.out ()]
    clear HEx HMo HQ1 HQ2
    have HQs : Hid (q1 ≤ 160 ∧ q2 ≤ 224) := ⟨by omega, by omega⟩
    generalize baseN I = B at *
    generalize expoN I = E at *
    generalize modN I = M at *
    go_wp2_with fail
    refine (ypPart_any v I 96 nb w0 (HS.out.fr hf) sI (by omega) (by have := HB0.out; omega)).mono ?_
    rintro e w1 ⟨v1, rfl, h1, hfx⟩
    replace hf := hf.step hfx hf.size (fun _ _ x => x)
    clear hfx
    go_wp2_with fail
    refine (fromBE_Sl v1 _ w1 h1 (partB_dg HD.out _ _) (by rw [partB_length]; have := HB0.out; omega)).mono ?_
    rintro e w2 ⟨vB, rfl, hB, hfx⟩
    rw [HBa.out ()] at hB
    replace hf := hf.step hfx hf.size (fun _ _ x => x)
    clear hfx h1
    go_wp2_with fail
    refine (ypPart_any v I q1 ne w2 (HS.out.fr hf) sI (by have := HQs.out; omega) (by have := HB1.out; omega)).mono ?_
    rintro e w3 ⟨v3, rfl, h3, hfx⟩
    replace hf := hf.step hfx hf.size (fun _ _ x => x)
    replace hB := hB.fr hfx
    clear hfx
    go_wp2_with fail
    refine (fromBE_Sl v3 _ w3 h3 (partB_dg HD.out _ _) (by rw [partB_length]; have := HB1.out; omega)).mono ?_
    rintro e w4 ⟨vE, rfl, hE, hfx⟩
    rw [HEx'.out ()] at hE
    replace hf := hf.step hfx hf.size (fun _ _ x => x)
    replace hB := hB.fr hfx
    clear hfx h3
    go_wp2_with fail
    refine (ypPart_any v I q2 nm w4 (HS.out.fr hf) sI (by have := HQs.out; omega) (by have := HB2.out; omega)).mono ?_
    rintro e w5 ⟨v5, rfl, h5, hfx⟩
    replace hf := hf.step hfx hf.size (fun _ _ x => x)
    replace hB := hB.fr hfx
    replace hE := hE.fr hfx
    clear hfx
    go_wp2_with fail
    refine (fromBE_Sl v5 _ w5 h5 (partB_dg HD.out _ _) (by rw [partB_length]; have := HB2.out; omega)).mono ?_
    rintro e w6 ⟨vM, rfl, hM, hfx⟩
    rw [HMo'.out ()] at hM
    replace hf := hf.step hfx hf.size (fun _ _ x => x)
    replace hB := hB.fr hfx
    replace hE := hE.fr hfx
    clear hfx h5
    go_wp2_with fail
    refine (ypPow_any vB vE vM B E M w6 hB hE hM HrB.out HrM.out (Nat.le_trans (digs_room _ 8 HrE.out) (by decide))).mono ?_
    rintro e w7 ⟨vP, rfl, hP, hfx⟩
    replace hf := hf.step hfx hf.size (fun _ _ x => x)
    clear hfx hB hE hM HBa HEx' HMo'
    generalize powF B E M = PP at *
    have HlD : Hid ((digs PP).length ≤ nm) := (digs_length_le _ _).2 (HPr.out ())
    have HAll : Hid (∀ _ : Unit, outY nm (digs PP) (digs PP).length = outN I) := fun _ => by rw [HOut.out (), outY_all _ _ (HPr.out ())]
    have hdD := digs_dg PP
    clear HPr HOut
    generalize digs PP = D at *
    have hfa : Fr w7.heap.size no w7 (w7.alloc (.cells (ints .u8 (List.replicate nm 0)) 5)) := (Fr.refl _ _ _).alloc (Nat.le_refl _) _
    have hO : IB (w7.alloc (.cells (ints .u8 (List.replicate nm 0)) 5)) w7.heap.size .u8 5 (outY nm D 0) := by rw [outY_zero]; exact IB.new _ _ _ _
    have hP' := hP.fr hfa
    have hf' := hf.step hfa hf.size (fun _ _ x => x)
    have hUo : w.heap.size ≤ w7.heap.size := hf.size
    have HX : Hid (∀ b off i, w7.cell? ⟨b, off + i, none⟩ ≠ none → b ≠ w7.heap.size) := by
      intro b off i h1 h2
      subst h2
      cases hc : w7.cell? ⟨w7.heap.size, off + i, none⟩ with
      | none => exact h1 hc
      | some x => have := cell_lt hc; simp at this
    obtain ⟨a, cap, rfl, g1, g2, g3⟩ := hP
    have HC : Hid (D = [] ∨ ∃ b off, a = some ⟨b, off, none⟩ ∧ ∀ i, i < D.length → w7.cell? ⟨b, off + i, none⟩ = some (.int .u8 ((D.getD i 0 : Nat) : Int))) := g3
    clear g3 hf hP'
    unfold maxLen at g2
    go_wp2_with ((with_reducible refine wl_make 27 5 (.tmp 51) (.tmp 51) .u8 .u64 .u64 nm ?_ ?_ i5 und33 hi5 hz5 hs5 ?_ ?_ ?_); rfl; rfl; (rw [hb5]; have := HB2.out; omega); (unfold maxLen; have := HB2.out; omega))
    have HA : Hid (Fr w7.heap.size no w7 (w7.alloc (.cells (ints .u8 (List.replicate nm 0)) 5))) := hfa
    clear hfa
    generalize w7.alloc (.cells (ints .u8 (List.replicate nm 0)) 5) = w8 at hO hf' HA ⊢
    obtain ⟨ob, HOB⟩ : ∃ ob, Hid (∀ _ : Unit, w7.heap.size = ob) := ⟨_, fun _ => rfl⟩
    rw [HOB.out ()] at hO hUo ⊢
    go_loopw [55] (fun iv wr => ∃ i : Nat, i ≤ D.length ∧ iv = .int .i64 (i : Int) ∧ IB wr ob .u8 5 (outY nm D i) ∧ Fr w.heap.size no w wr ∧ Hid (Fr w7.heap.size no w7 wr)) (fun i _ => D.length - (intOf i).toNat)
    case atStart => exact ⟨0, by omega, rfl, hO, hf', HA⟩
    case round =>
      obtain ⟨i, hi, rfl, hOi, hf, HA2⟩ := hrel
      clear hO hf' HA
      by_cases hin : i < D.length
      · rcases HC.out with h0 | ⟨b, off, rfl, hcs⟩
        · rw [h0] at hin; simp at hin
        obtain ⟨d, HDd, hcd⟩ := Sl.at (n := 0) (cap := 0) hcs i hin
        have hbo : b ≠ ob := by rw [← HOB.out ()]; exact HX.out b off i (by rw [hcd]; simp)
        rw [← HA2.out.cell (cell_lt hcd) (fun x => x)] at hcd
        clear hcs
        have HlD2 : Hid (D.length ≤ nm) := HlD
        obtain ⟨p, HPp⟩ : ∃ p : Nat, Hid (∀ _ : Unit, p = nm - 1 - i) := ⟨_, fun _ => rfl⟩
        have eP : (nm : Int) - 1 - (i : Int) = (p : Int) := by rw [HPp.out ()]; have := HlD.out; omega
        have hp1 : (p : Int) < (nm : Int) := by have := HlD.out; omega
        have HLo : Hid (∀ _ : Unit, (outY nm D i).length = nm) := fun _ => outY_length _ _ _ hi HlD.out
        have HSt : Hid (∀ _ : Unit, outY nm D (i + 1) = (outY nm D i).set p d) := fun _ => by rw [HPp.out ()]; exact outY_step nm D i d hin HlD.out HDd.out
        have hc := hOi.cell p (by rw [HLo.out ()]; omega)
        have hz := hOi.unfrozen p
        generalize (outY nm D i).getD p 0 = g0 at hc
        have HDd' : Hid (∀ _ : Unit, D.getD i 0 = d) := fun _ => HDd.out
        clear HDd
        go_wp2_with fail
        refine ⟨⟨i + 1, by omega, by go_num, ?_, hf.setCell (.inl hUo) _, ?_⟩, by simp [intOf]; omega⟩
        · refine hOi.set' p d rfl ?_
          exact HSt.out ()
        · exact HA2.out.setCell (.inl (by rw [HOB.out ()]; exact Nat.le_refl _)) _
      · have : i = D.length := by omega
        subst this
        go_wp2_with fail
        go_ret
        refine ⟨_, rfl, ?_, hf⟩
        have := NewD.of_ib (B := w.heap.size) hOi nm (by rw [outY_length _ _ _ (Nat.le_refl _) HlD.out]; omega) (by unfold maxLen; have := HB2.out; omega) hUo
        rw [List.take_of_length_le (by rw [outY_length _ _ _ (Nat.le_refl _) HlD.out]; omega), HAll.out ()] at this
        exact this
  · obtain ⟨hno, rfl⟩ := hcase
    exact absurd HOK.out hno
end Go.Proofs.YgcsanGreat
