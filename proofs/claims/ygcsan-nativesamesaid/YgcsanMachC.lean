/-
  Package mach: copied, lengths.
-/
import Derived.Test.YgcsanMachB
namespace Go.Proofs.Ygcsan
open Go.RowKit
set_option linter.unusedSimpArgs false
set_option linter.unusedVariables false

set_option maxRecDepth 10000 in
set_option maxHeartbeats 400000 in
theorem copied_any (v : Value) (l : List Nat) (w : World) (h : Sl w .u8 v l) (hsm : l.length ≤ 16777216) :
    Calls Sang.prog 53 #[v] w fun e w' => ∃ v', e = .returned v' ∧ Sl w' .u8 v' l ∧ Fr w.heap.size no w w' := by
  obtain ⟨i5, hi5, hz5, hs5, hb5⟩ := info_parts info5
  have HS : Hid (Sl w .u8 v l) := h
  obtain ⟨a, cap, rfl, hl, hm, hc⟩ := h
  have hf : Fr w.heap.size no w (w.alloc (.cells (ints .u8 (List.replicate l.length 0)) 5)) := (Fr.refl _ _ _).alloc (Nat.le_refl _) _
  have HF : Hid _ := hf
  clear hf hc
  by_cases h0 : l.length = 0
  · have : l = [] := List.eq_nil_of_length_eq_zero h0
    subst this
    go_enter Sang.func53, Sang.ntmps53
    go_wp2_with fail
    go_ret
    exact ⟨_, rfl, Sl.nil _ _, Fr.refl _ _ _⟩
  · have h0' : ((l.length : Int) == 0) = false := by simpa using h0
    clear h0
    go_enter Sang.func53, Sang.ntmps53
    go_wp2_with (first
      | ((with_reducible refine wl_make 33 5 (.tmp 8) (.tmp 8) .u8 .i64 .i64 l.length ?_ ?_ i5 und33 hi5 hz5 hs5 ?_ ?_ ?_); rfl; rfl; (rw [hb5]; omega); (unfold maxLen; omega))
      | ((with_reducible refine wl_copy 33 33 5 (.tmp 10) (.tmp 11) w.heap.size 0 l.length l.length .u8 5 (List.replicate l.length 0) l _ ?_ ?_ ?_ (Sl.fr HS.out HF.out) ?_ i5 und33 hi5 hs5 ?_); rfl; rfl; exact IB.new w .u8 5 _; (simp)))
    go_ret
    have hlm : lay (List.replicate l.length 0) 0 l = l := lay_all _ _ (by simp)
    rw [hlm]
    have hib : IB (setRow (w.alloc (.cells (ints .u8 (List.replicate l.length 0)) 5)) w.heap.size .u8 5 l) w.heap.size .u8 5 l := IB.setRow (by simp) _ _ _
    refine ⟨_, rfl, ?_, HF.out.setRow (.inl (Nat.le_refl _)) _ _ _⟩
    have := Sl.of_ib hib l.length l.length (Nat.le_refl _) (Nat.le_refl _) (by unfold maxLen; omega)
    rw [List.take_length] at this
    exact this

/-- length i of a modular exponentiation -/
def lenI (I : List Nat) (i : Nat) : Nat := be (partB I (32 * i) 32)
/-- none of the lengths is above 64 -/
def lenOk (I : List Nat) : Prop := ∀ i, i < 3 → lenI I i ≤ 64

theorem lenI_room {I : List Nat} (h : Dg 256 I) (i : Nat) : lenI I i < W64 ^ 4 := by
  have := be_lt (partB_dg h (32 * i) 32)
  rw [partB_length] at this
  exact this

theorem results_tmp4 {fn : Func} {t u v x : Tmp} (h : fn.results = #[.tmp t, .tmp u, .tmp v, .tmp x]) (tmps : Array Value) (P : Program) (w : World) :
    (results fn tmps).run P w = .ok (.tuple #[tmps.getD t undef, tmps.getD u undef, tmps.getD v undef, tmps.getD x undef]) w := by
  simp [results, h]

theorem und147 : Sang.prog.underlying 147 = some (.array 3 3) := by kernel_rfl

set_option maxRecDepth 10000 in
set_option maxHeartbeats 1000000 in
theorem mLengths_any (v : Value) (I : List Nat) (w : World) (h : Sl w .u8 v I) (hd : Dg 256 I) (sI : I.length ≤ 16777216) :
    Calls Sang.prog 45 #[v] w fun e w' => ((lenOk I ∧ e = .returned (.tuple #[.int .i64 (lenI I 0 : Nat), .int .i64 (lenI I 1 : Nat), .int .i64 (lenI I 2 : Nat), .bool true])) ∨
      (¬ lenOk I ∧ e = .returned (.tuple #[.int .i64 0, .int .i64 0, .int .i64 0, .bool false]))) ∧ Fr w.heap.size no w w' := by
  have HS : Hid (Sl w .u8 v I) := h
  have HD : Hid (Dg 256 I) := hd
  have HM : Hid (∀ i, i < 3 → [lenI I 0, lenI I 1, lenI I 2].getD i 0 = lenI I i) := by
    intro i hi
    have : i = 0 ∨ i = 1 ∨ i = 2 := by omega
    rcases this with h | h | h <;> subst h <;> rfl
  have HMl : Hid ([lenI I 0, lenI I 1, lenI I 2].length = 3) := rfl
  clear h hd
  go_enter Sang.func45, Sang.ntmps45
  go_wp2_with fail
  have hU0 : IB (w.alloc (.cells #[.int .i64 0, .int .i64 0, .int .i64 0] 147)) w.heap.size .i64 147 (part [lenI I 0, lenI I 1, lenI I 2] 0) := IB.newAt rfl rfl
  have hf0 : Fr w.heap.size no w (w.alloc (.cells #[.int .i64 0, .int .i64 0, .int .i64 0] 147)) := (Fr.refl _ _ _).alloc (Nat.le_refl _) _
  generalize w.alloc (.cells #[.int .i64 0, .int .i64 0, .int .i64 0] 147) = w0 at hU0 hf0 ⊢
  generalize HMM : [lenI I 0, lenI I 1, lenI I 2] = M at hU0 HM HMl
  have HMM' : Hid ([lenI I 0, lenI I 1, lenI I 2] = M) := HMM
  clear HMM
  go_loopw [11] (fun iv wr => ∃ i : Nat, i ≤ 3 ∧ iv = .int .i64 (i : Int) ∧ Hid (∀ j, j < i → lenI I j ≤ 64) ∧ IB wr w.heap.size .i64 147 (part M i) ∧ Fr w.heap.size no w wr) (fun i _ => 3 - (intOf i).toNat)
  case atStart => exact ⟨0, by omega, rfl, fun j hj => by omega, hU0, hf0⟩
  case round =>
    obtain ⟨i, hi, rfl, HJ, hU, hf⟩ := hrel
    clear hU0 hf0
    have hpl : (part M i).length = 3 := by rw [part_length _ _ (by rw [HMl.out]; exact hi), HMl.out]
    by_cases hin : i < 3
    · have hin' : (i : Int) < 3 := by omega
      obtain ⟨q, HQ⟩ : ∃ q, Hid (q = 32 * i) := ⟨_, rfl⟩
      have eq1 : (32 : Int) * (i : Int) = (q : Int) := by rw [HQ.out]; omega
      have HQS : Hid (q ≤ 96) := by unfold Hid; rw [HQ.out]; omega
      go_wp2_with fail
      have hfa : Fr wr.heap.size no wr (wr.alloc (.cells #[.int .u8 0, .int .u8 0, .int .u8 0, .int .u8 0, .int .u8 0, .int .u8 0, .int .u8 0, .int .u8 0, .int .u8 0, .int .u8 0, .int .u8 0, .int .u8 0, .int .u8 0, .int .u8 0, .int .u8 0, .int .u8 0, .int .u8 0, .int .u8 0, .int .u8 0, .int .u8 0, .int .u8 0, .int .u8 0, .int .u8 0, .int .u8 0, .int .u8 0, .int .u8 0, .int .u8 0, .int .u8 0, .int .u8 0, .int .u8 0, .int .u8 0, .int .u8 0] 71)) := (Fr.refl _ _ _).alloc (Nat.le_refl _) _
      have hb : IB (wr.alloc (.cells #[.int .u8 0, .int .u8 0, .int .u8 0, .int .u8 0, .int .u8 0, .int .u8 0, .int .u8 0, .int .u8 0, .int .u8 0, .int .u8 0, .int .u8 0, .int .u8 0, .int .u8 0, .int .u8 0, .int .u8 0, .int .u8 0, .int .u8 0, .int .u8 0, .int .u8 0, .int .u8 0, .int .u8 0, .int .u8 0, .int .u8 0, .int .u8 0, .int .u8 0, .int .u8 0, .int .u8 0, .int .u8 0, .int .u8 0, .int .u8 0, .int .u8 0, .int .u8 0] 71)) wr.heap.size .u8 71 (List.replicate 32 0) := IB.newAt rfl rfl
      have hU1 := hU.fr hfa hU.lt (fun x => x)
      have hf1 := hf.step hfa hf.size (fun _ _ x => x)
      have hbU : w.heap.size < wr.heap.size := hU.lt
      clear hfa hU hf
      generalize wr.alloc (.cells #[.int .u8 0, .int .u8 0, .int .u8 0, .int .u8 0, .int .u8 0, .int .u8 0, .int .u8 0, .int .u8 0, .int .u8 0, .int .u8 0, .int .u8 0, .int .u8 0, .int .u8 0, .int .u8 0, .int .u8 0, .int .u8 0, .int .u8 0, .int .u8 0, .int .u8 0, .int .u8 0, .int .u8 0, .int .u8 0, .int .u8 0, .int .u8 0, .int .u8 0, .int .u8 0, .int .u8 0, .int .u8 0, .int .u8 0, .int .u8 0, .int .u8 0, .int .u8 0] 71) = w1 at hb hU1 hf1 ⊢
      generalize wr.heap.size = bb at hb hbU ⊢
      refine (mPart_any bb 71 0 32 32 q v I w1 rfl hb (HS.out.fr hf1) sI (by omega) (by have := HQS.out; omega)).mono ?_
      rintro e w2 ⟨rfl, hb2, hf2⟩
      have hU2 := hU1.fr hf2 hU1.lt (by omega)
      have hfw2 := hf1.step hf2 hf1.size (fun k hk hx => by omega)
      rw [show List.replicate 0 0 ++ partB I q 32 = partB I q 32 from rfl] at hb2
      clear hU1 hf1 hf2 hb
      have hbl : (partB I q 32).length = 32 := partB_length _ _ _
      have hs71 : (Sang.prog.info? 71).map (·.size) = some (partB I q 32).length := by rw [hbl]; exact siz71
      go_wp2_with ((with_reducible refine wl_load 71 (.tmp 8) bb .u8 71 (partB I q 32) ?_ hb2 (.array 32 5) und71 ?_ hs71 ?_); rfl; rfl)
      refine (fromBytes_any _ w2 hbl (partB_dg HD.out _ _)).mono ?_
      rintro e w3 ⟨rfl, hf3⟩
      have hU3 := hU2.fr hf3 hU2.lt (fun x => x)
      have hfw3 := hfw2.step hf3 hfw2.size (fun _ _ x => x)
      clear hU2 hfw2 hf3 hb2
      have hlI : be (partB I q 32) = lenI I i := by rw [HQ.out]; rfl
      rw [hlI]
      have HRm : Hid (lenI I i < W64 ^ 4) := lenI_room HD.out i
      have HMi := HM.out i hin
      go_wp2_with fail
      refine (wordU64_any (lenI I i) w3 HRm.out).mono ?_
      rintro e w4 ⟨rfl, hf4⟩
      have hU4 := hU3.fr hf4 hU3.lt (fun x => x)
      have hfw4 := hfw3.step hf4 hfw3.size (fun _ _ x => x)
      clear hU3 hfw3 hf4 hlI
      by_cases hN : lenI I i ≤ 64
      · rw [if_pos (show lenI I i < W64 by rw [W64_eq]; omega), show decide (lenI I i < W64) = true from decide_eq_true (by rw [W64_eq]; omega)]
        generalize hx : lenI I i = x at *
        have HX : Hid (∀ _ : Unit, lenI I i = x) := fun _ => hx
        have HMi' : Hid (∀ _ : Unit, M.getD i 0 = x) := fun _ => HMi
        clear hx HMi
        have hc := hU4.cell i (by omega)
        have hz := hU4.unfrozen i
        generalize (part M i).getD i 0 = g0 at hc
        generalize limbs W64 4 x = LX
        generalize ints IntKind.u8 (partB I q 32) = PB
        have hN' : (x : Int) ≤ 64 := by omega
        have HNx : Hid (x ≤ 64) := hN
        have hwx : IntKind.i64.wrap (x : Int) = (x : Int) := by rw [IntKind.wrap_i64]; omega
        clear HRm hN
        go_wp2_with fail
        refine ⟨⟨i + 1, by omega, by go_num, ?_, ?_, hfw4.setCell (.inl (Nat.le_refl _)) _⟩, by simp [intOf]; omega⟩
        · intro j hj
          by_cases e : j = i
          · rw [e, HX.out ()]; exact HNx.out
          · exact HJ.out j (by omega)
        · refine hU4.set' i x rfl ?_
          rw [part_succ _ _ (by rw [HMl.out]; exact hin), HMi'.out ()]
      · have HNo : Hid (¬ lenOk I) := fun h => hN (h i hin)
        by_cases hlt : lenI I i < W64
        · rw [if_pos hlt, show decide (lenI I i < W64) = true by simpa using hlt]
          generalize lenI I i = x at *
          have hlt' : Hid (x < W64) := hlt
          have hN' : (64 : Int) < (x : Int) := by omega
          clear hlt HMi HRm hN
          go_wp2_with fail
          (try simp only [Exit.inBlock, Exit.then])
          refine bodyPost_ret (results_tmp4 rfl _ _ _) rfl ?_
          exact ⟨.inr ⟨HNo.out, rfl⟩, hfw4⟩
        · rw [if_neg hlt, show decide (lenI I i < W64) = false by simpa using hlt]
          clear hlt HMi HRm hN
          go_wp2_with fail
          (try simp only [Exit.inBlock, Exit.then])
          refine bodyPost_ret (results_tmp4 rfl _ _ _) rfl ?_
          exact ⟨.inr ⟨HNo.out, rfl⟩, hfw4⟩
    · have : i = 3 := by omega
      subst this
      have hall : part M 3 = [lenI I 0, lenI I 1, lenI I 2] := by
        have h1 := part_all M
        rw [HMl.out] at h1
        rw [h1, HMM'.out]
      rw [hall] at hU
      have HOk : Hid (lenOk I) := fun j hj => HJ.out j hj
      have hUd := hU.drew
      have hc0 := hUd.cell 0 (by simp)
      have hc1 := hUd.cell 1 (by simp)
      have hc2 := hUd.cell 2 (by simp)
      clear hall hpl
      go_wp2_with fail
      go_region
      go_wp2_with fail
      (try simp only [Exit.inBlock, Exit.then])
      refine bodyPost_ret (results_tmp4 rfl _ _ _) rfl ?_
      refine ⟨.inl ⟨HOk.out, ?_⟩, hf.drew⟩
      simp [Act.put]
end Go.Proofs.Ygcsan
