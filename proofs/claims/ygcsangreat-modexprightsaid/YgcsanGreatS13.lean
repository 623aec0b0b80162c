/-
  Package yp: State.enter.
-/
import Derived.Test.YgcsanGreatS8
import Derived.Deep.RegionLawGrows
import Derived.Test.YgcsanGreatS10
namespace Go.Proofs.YgcsanGreat
open Go.RowKit
set_option linter.unusedSimpArgs false
set_option linter.unusedVariables false
attribute [-go_sem] loadVar storeVar Instr.build Instr.fill Instr.buildSlice Builtin.append_

set_option linter.unusedSectionVars false
/-- a frame that calls a precompiled contract -/
def frV (nat : Nat) (gas val inp : Value) (self caller : List Nat) (saved : List Value) : List Value :=
  [.int .u8 0, .int .u8 (nat : Int), .bool false, .slice none 0 0, gas, val, .slice none 0 0, .slice none 0 0, .slice none 0 0, .slice none 0 0, .slice none 0 0, inp] ++ (byV self ++ (byV caller ++ saved))
section
variable (nat : Nat) (gas val inp : Value) (self caller : List Nat) (saved : List Value) (l1 : self.length = 20) (l2 : caller.length = 20) (l3 : saved.length = 8)
include l1 l2 l3
theorem frV_length : (frV nat gas val inp self caller saved).length = 60 := by simp [frV, byV_length, l1, l2, l3]
theorem frV_all : subV (frV nat gas val inp self caller saved) 0 60 = frV nat gas val inp self caller saved := by
  have := frV_length nat gas val inp self caller saved l1 l2 l3
  simp [subV, ← this]
theorem frV_self : subV (frV nat gas val inp self caller saved) 12 20 = byV self := by
  have h : (byV self).length = 20 := by rw [byV_length, l1]
  simp [subV, frV, ← h]
theorem frV_caller : subV (frV nat gas val inp self caller saved) 32 20 = byV caller := by
  have h : (byV caller).length = 20 := by rw [byV_length, l2]
  have e : frV nat gas val inp self caller saved = (frV nat gas val inp self caller saved).take 32 ++ (byV caller ++ saved) := by
    simp [frV, List.take_append, byV_length, l1]
  have e2 : (frV nat gas val inp self caller saved).drop 32 = byV caller ++ saved := by
    simp [frV, List.drop_append, byV_length, l1]
  simp [subV, e2, ← h]
theorem frV_saved : subV (frV nat gas val inp self caller saved) 52 8 = saved := by
  have e2 : (frV nat gas val inp self caller saved).drop 52 = saved := by
    simp [frV, List.drop_append, byV_length, l1, l2]
  simp [subV, e2, ← l3]
theorem frV_lay (S : List Value) (hS : S.length = 8) : layV (frV nat gas val inp self caller saved) 52 S = frV nat gas val inp self caller S := by
  rw [layV_eq _ _ _ (by have := frV_length nat gas val inp self caller saved l1 l2 l3; omega)]
  have e1 : (frV nat gas val inp self caller saved).take 52 = [.int .u8 0, .int .u8 (nat : Int), .bool false, .slice none 0 0, gas, val, .slice none 0 0, .slice none 0 0, .slice none 0 0, .slice none 0 0, .slice none 0 0, inp] ++ (byV self ++ byV caller) := by
    simp [frV, List.take_append, byV_length, l1, l2, List.take_of_length_le (show (byV self).length ≤ 40 by rw [byV_length, l1]; decide), List.take_of_length_le (show (byV caller).length ≤ 20 by rw [byV_length, l2]; decide)]
  rw [e1, List.drop_eq_nil_of_le (by have := frV_length nat gas val inp self caller saved l1 l2 l3; omega)]
  simp [frV]
end
theorem frV_flat (nat : Nat) (gas val inp : Value) (self caller : List Nat) (saved : List Value) (h1 : gas.oneCell' = true) (h2 : val.oneCell' = true) (h3 : inp.oneCell' = true) (h4 : Flat saved) : Flat (frV nat gas val inp self caller saved) :=
  Flat.append (Flat.cons rfl (Flat.cons rfl (Flat.cons rfl (Flat.cons rfl (Flat.cons h1 (Flat.cons h2 (Flat.cons rfl (Flat.cons rfl (Flat.cons rfl (Flat.cons rfl (Flat.cons rfl (Flat.cons h3 Flat.nil)))))))))))) ((byV_flat _).append ((byV_flat _).append h4))
def zfV : List Value := frV 0 (.slice none 0 0) (.slice none 0 0) (.slice none 0 0) (List.replicate 20 0) (List.replicate 20 0) (wdV (.slice none 0 0) (.slice none 0 0))
theorem info119 : (Sang.prog.info? 119).map (fun i => (i.zero, i.size, i.bytes)) = some (some (.agg zfV.toArray), 60, 456) := by kernel_rfl
theorem bs61 (M : List Value) (hM : M.length = 60) (w : World) : (Instr.buildSlice 61 1 #[(0, .agg M.toArray)]).run Sang.prog w = .ok (.slice (some ⟨w.heap.size, 0, none⟩) 1 1) (w.alloc (.cells M.toArray 119)) := by
  obtain ⟨i, h1, h2, h3, h4⟩ := info_parts info119
  exact run_buildSlice1 61 119 i _ 60 Sang.underlying61 h1 h3 h2 (by decide) (by decide) M hM w
attribute [go_sem] bs61

set_option maxRecDepth 10000 in
set_option maxHeartbeats 4000000 in
theorem enter_any (c gA cap : Nat) (L LA : List Value) (A B : List Nat) (n b va gas val inp : Value) (nn bb k : Nat) (w : World) (h : VB w c 75 L) (c0 : L[0]? = some (.slice (some ⟨gA, 0, none⟩) 1 cap)) (c1 : L[1]? = some va) (cn : ∀ i, 2 ≤ i → i < 8 → L[i]? = some (.slice none 0 0)) (c9 : L[9]? = some (.slice none 0 0)) (c10 : L[10]? = some (.slice none 0 0))
    (hA : VB w gA 106 LA) (lA : A.length = 20) (lB : B.length = 20) (hs : subV LA 0 24 = acV A n b (.slice none 0 0) (.slice none 0 0)) (hl : 24 ≤ LA.length) (hn : Sl w .u8 n (digs nn)) (hb : Sl w .u8 b (digs bb)) (ln : (digs nn).length ≤ 8388608) (lb : (digs bb).length ≤ 8388608) (hva : AS w k va) (hk : k ≤ 900)
    (hg : gas.oneCell' = true) (hv : Sl w .u8 val (digs 0)) (hi : inp.oneCell' = true) :
    Calls Sang.prog 86 #[.pointer (some ⟨c, 0, none⟩), .agg (frV 5 gas val inp B A (wdV (.slice none 0 0) (.slice none 0 0))).toArray] w fun e w' => e = .returned (.tuple #[]) ∧ ∃ gF capF LF g' va' LA' n' b', VB w' c 75 (L.set 9 (.slice (some ⟨gF, 0, none⟩) 1 capF)) ∧ VB w' gF 119 LF ∧ 60 ≤ LF.length ∧ 1 ≤ capF ∧
      subV LF 0 60 = frV 5 gas val inp B A (wdV (.slice (some ⟨g', 0, none⟩) 1 1) va') ∧ VB w' g' 106 LA' ∧ subV LA' 0 24 = acV A n' b' (.slice none 0 0) (.slice none 0 0) ∧ 24 ≤ LA'.length ∧ Sl w' .u8 n' (digs nn) ∧ FarS c n' ∧ Sl w' .u8 b' (digs bb) ∧ FarS c b' ∧ va'.oneCell' = true ∧ noU8 va' ∧ w.heap.size ≤ gF ∧ w.heap.size ≤ g' ∧ FarS gF n' ∧ FarS gF b' ∧ g' ≠ gF ∧ Fr w.heap.size (· = c) w w' := by
  have hcl := h.lt
  have l9 : 9 < L.length := by
    by_cases h0 : 9 < L.length
    · exact h0
    · rw [List.getElem?_eq_none (by omega)] at c9; cases c9
  have l10 : 10 < L.length := by
    by_cases h0 : 10 < L.length
    · exact h0
    · rw [List.getElem?_eq_none (by omega)] at c10; cases c10
  have lz8 : (wdV (.slice none 0 0) (.slice none 0 0)).length = 8 := rfl
  have hFl : (frV 5 gas val inp B A (wdV (.slice none 0 0) (.slice none 0 0))).length = 60 := frV_length _ _ _ _ _ _ _ lB lA lz8
  have hLay := fun S hS => frV_lay 5 gas val inp B A (wdV (.slice none 0 0) (.slice none 0 0)) lB lA lz8 S hS
  obtain ⟨F, HFe⟩ : ∃ F, Hid (∀ _ : Unit, frV 5 gas val inp B A (wdV (.slice none 0 0) (.slice none 0 0)) = F) := ⟨_, fun _ => rfl⟩
  rw [HFe.out ()] at hFl hLay ⊢
  have h1 := h.alloc (.cells F.toArray 119)
  have hA1 := hA.alloc (.cells F.toArray 119)
  have hX1 := VB.new w 119 F
  have hf : Fr w.heap.size no w (w.alloc (.cells F.toArray 119)) := (Fr.refl _ _ _).alloc (Nat.le_refl _) _
  have hw1 := hX1.lt
  go_enter Sang.func86, Sang.ntmps86
  go_wp2_with fail
  generalize w.alloc (.cells F.toArray 119) = w1 at h1 hA1 hX1 hf hw1 ⊢
  refine (clone_any c 75 L LA gA cap A n b va nn bb k w1 h1 c0 c1 cn hA1 lA hs hl (hn.fr hf) (hb.fr hf) (by omega) (by omega) (hva.fr hf (fun _ _ _ _ x => x)) hk).mono ?_
  rintro e w2 ⟨g', va', LA', n', b', rfl, r2, r3, r4, r5, r6, r7, r8, r9, o1, o2, hfx⟩
  replace h1 := h1.fr hfx h1.lt (fun x => x)
  replace hA1 := hA1.fr hfx hA1.lt (fun x => x)
  replace hX1 := hX1.fr hfx hX1.lt (fun x => x)
  have hsz1 := hf.size
  replace hf := hf.step hfx hf.size (fun _ _ x => x)
  clear hfx
  have hWf := wdV_flat (.slice (some ⟨g', 0, none⟩) 1 1) va' rfl o1
  have hWl : (wdV (.slice (some ⟨g', 0, none⟩) 1 1) va').length = 8 := rfl
  have hla := hLay (wdV (.slice (some ⟨g', 0, none⟩) 1 1) va') hWl
  have fF := frV_flat 5 gas val inp B A (wdV (.slice (some ⟨g', 0, none⟩) 1 1) va') hg hv.one hi hWf
  have fl := frV_length 5 gas val inp B A (wdV (.slice (some ⟨g', 0, none⟩) 1 1) va') lB lA hWl
  have fa := frV_all 5 gas val inp B A (wdV (.slice (some ⟨g', 0, none⟩) 1 1) va') lB lA hWl
  have fs := frV_self 5 gas val inp B A (wdV (.slice (some ⟨g', 0, none⟩) 1 1) va') lB lA hWl
  have fc := frV_caller 5 gas val inp B A (wdV (.slice (some ⟨g', 0, none⟩) 1 1) va') lB lA hWl
  have f0 : (frV 5 gas val inp B A (wdV (.slice (some ⟨g', 0, none⟩) 1 1) va'))[0]? = some (.int .u8 0) := rfl
  have f5 : (frV 5 gas val inp B A (wdV (.slice (some ⟨g', 0, none⟩) 1 1) va'))[5]? = some val := rfl
  obtain ⟨F2, HF2⟩ : ∃ F2, Hid (∀ _ : Unit, frV 5 gas val inp B A (wdV (.slice (some ⟨g', 0, none⟩) 1 1) va') = F2) := ⟨_, fun _ => rfl⟩
  rw [HF2.out ()] at hla fF fl fa fs fc f0 f5
  obtain ⟨WD, HWD⟩ : ∃ WD, Hid (∀ _ : Unit, wdV (.slice (some ⟨g', 0, none⟩) 1 1) va' = WD) := ⟨_, fun _ => rfl⟩
  rw [HWD.out ()] at hWf hWl hla
  rw [HWD.out ()]
  clear hLay
  have q1 := hX1.q
  have hX2 := VB.setV hX1.lt 119 F2
  have k0 := hX2.cell 0 f0
  go_wp2_with fail
  have hcw : c ≠ w.heap.size := by omega
  have hgw : gA ≠ w.heap.size := by have := hA.lt; omega
  have hfs : Fr w2.heap.size (· = w.heap.size) w2 (setV w2 w.heap.size 119 F2) := (Fr.refl _ (· = w.heap.size) _).setV (.inr rfl) _ _
  replace h1 := h1.otherV hcw 119 F2
  replace hA1 := hA1.otherV hgw 119 F2
  have hgp : g' ≠ w.heap.size := by have := hX1.lt; omega
  replace r2 := r2.otherV hgp 119 F2
  have fn : FarS c n' := FarS.fresh r6 (by omega)
  have fb : FarS c b' := FarS.fresh r8 (by omega)
  replace r5 := r5.frS (FarS.fresh r6 (by omega)) hfs
  replace r7 := r7.frS (FarS.fresh r8 (by omega)) hfs
  replace hf := hf.setV (b := w.heap.size) (.inl (Nat.le_refl _)) 119 F2
  clear hX1 q1 k0 hfs
  generalize setV w2 w.heap.size 119 F2 = w3 at h1 hA1 hX2 r2 r5 r7 hf ⊢
  refine (creates_zero w3).mono ?_
  rintro e w3' ⟨rfl, rfl⟩
  have k0 := hX2.cell 0 f0
  go_wp2_with fail
  clear k0
  have hu23 := und23
  have lBv : (byV B).length = 20 := by rw [byV_length, lB]
  have lAv : (byV A).length = 20 := by rw [byV_length, lA]
  have hiB : (Sang.prog.info? 23).map (·.size) = some (byV B).length := by rw [lBv]; exact siz23
  have hiA : (Sang.prog.info? 23).map (·.size) = some (byV A).length := by rw [lAv]; exact siz23
  have HMv : Hid (∀ w', Fr w3'.heap.size no w3' w' → Calls Sang.prog 141 #[.pointer (some ⟨c, 0, none⟩), .agg (byV A).toArray, .agg (byV B).toArray, val] w' fun e w'' => e = .returned (.tuple #[]) ∧ Fr w'.heap.size no w' w'') := fun w' f => move_none c 75 L LA gA cap A B n b val bb w' (h1.fr f h1.lt (fun x => x)) c0 (hA1.fr f hA1.lt (fun x => x)) lA lB hs hl hn.one ((hb.fr hf).fr f) lb ((hv.fr hf).fr f)
  go_cut [47] (fun s47 wx => Fr w3'.heap.size no w3' wx)
  case first =>
    have qd := hX2.drew.q
    have k5 := hX2.drew.cell 5 f5
    go_region_with (go_at_call 141; (with_reducible refine (HMv.out w3'.drew (Fr.refl _ _ _).drew).mono ?_); rintro e w4 ⟨rfl, hf4⟩; have hfx : Fr w3'.heap.size no w3' w4 := (Fr.refl _ _ _).drew.step hf4 (Nat.le_refl _) (fun _ _ x => x))
    all_goals (go_wp2_with fail; go_meet; exact hfx)
  case rest =>
  have hfx := hcut
  clear HMv hcut
  obtain ⟨w4, hw4⟩ : ∃ x, x = wc := ⟨_, rfl⟩
  subst hw4
  replace h1 := h1.fr hfx h1.lt (fun x => x)
  replace hX2 := hX2.fr hfx hX2.lt (fun x => x)
  replace r2 := r2.fr hfx r2.lt (fun x => x)
  replace r5 := r5.fr hfx
  replace r7 := r7.fr hfx
  replace hf := hf.step hfx hf.size (fun _ _ x => x)
  clear hfx hA1
  have k10 := h1.cell 10 c10
  have z10 := h1.unfrozen 10
  have hset10 : L.set 10 (.slice none 0 0) = L := by
    apply List.ext_getElem?
    intro i
    by_cases hi : 10 = i
    · subst hi; rw [List.getElem?_set_self l10, c10]
    · rw [List.getElem?_set_ne hi]
  have s10 : w4.setCell ⟨c, 10, none⟩ (.slice none 0 0) = w4 := by
    have := setCells_setV [(.slice none 0 0)] w4 c 75 _ 10 h1 (by simp; omega)
    simp only [World.setCells, layV] at this
    rw [this, hset10]
    exact setV_self h1
  go_wp2_with fail
  clear s10 k10 z10
  obtain ⟨i119, hi1, hz, hsz, hby⟩ := info_parts info119
  have zsz : (Value.agg zfV.toArray).cells.size = 60 := by kernel_rfl
  have hCd := h1.drew
  have hNd := hX2.drew
  have hB := (VB.new w4 119 F2).drew
  have hC7 := (h1.alloc (.cells F2.toArray 119)).drew
  have hN7 := (hX2.alloc (.cells F2.toArray 119)).drew
  have k0 := hCd.cell 9 c9
  have k7 := hC7.cell 9 c9
  have qN := hNd.q
  have qN7 := hN7.q
  have hf7 : Fr w4.heap.size no w4 (w4.alloc (.cells F2.toArray 119)).drew := ((Fr.refl _ _ _).alloc (Nat.le_refl _) _).drew
  go_region_law (refine step_append_nil (.tmp 56) (.tmp 58) 61 119 i119 _ 60 456 Sang.underlying61 hi1 hz hsz hby zsz (by decide) (by decide) (by simp [Act.put, Act.eval]) w4.heap.size 1 119 F2 (by simp [Act.put, Act.eval]) hB fl fF ?_; intro gF capF LF w8 hg hVg hc1 hcm hlen hsub hf8; have hC8 := hC7.fr hf8 hC7.lt (fun x => x); have k8 := hC8.cell 9 c9; have z8 := hC8.unfrozen 9; have hff := hf7.step hf8 hf7.size (fun _ _ x => x); have hg2 := Nat.le_trans hf7.size hg)
  all_goals (
    go_wp2_with fail
    go_end0
    have hfs : Fr w8.heap.size (· = c) w8 (w8.setCell ⟨c, 9, none⟩ (.slice (some ⟨gF, 0, none⟩) 1 capF)) := (Fr.refl _ (· = c) _).setCell (.inr rfl) _
    have hsz4 := hf.size
    have hgc : gF ≠ c := by omega
    have hg'c : g' ≠ c := by omega
    have r2' := r2.fr hff r2.lt (fun x => x)
    refine ⟨rfl, gF, capF, LF, g', va', LA', n', b', hC8.set l9 _, hVg.other (by simpa using fun e => hgc e.symm) _, by omega, hc1, ?_, r2'.other (by simpa using fun e => hg'c e.symm) _, r3, r4, (r5.fr hff).frS fn hfs, fn, (r7.fr hff).frS fb hfs, fb, o1, o2, by omega, by omega, FarS.old r5 hg2, FarS.old r7 hg2, by have := r2.lt; omega, ?_⟩
    · rw [hsub]; exact (HF2.out ()).symm
    · exact (Fr.weak (X := (· = c)) (hf.step hff hf.size (fun _ _ x => x))).setCell (.inr rfl) _)
end Go.Proofs.YgcsanGreat
