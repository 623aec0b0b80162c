/-
  Package yp: State.leave of the only frame.
-/
import Derived.Test.YgcsanGreatS13
namespace Go.Proofs.YgcsanGreat
open Go.RowKit
set_option linter.unusedSimpArgs false
set_option linter.unusedVariables false
attribute [-go_sem] loadVar storeVar Instr.build Instr.fill Instr.buildSlice Builtin.append_

set_option maxRecDepth 10000 in
set_option maxHeartbeats 4000000 in
theorem leave_no (c gF capF : Nat) (L LF W : List Value) (A B : List Nat) (gas val inp : Value) (w : World) (h : VB w c 75 L) (lL : L.length = 179) (c9 : L[9]? = some (.slice (some ⟨gF, 0, none⟩) 1 capF)) (hF : VB w gF 119 LF) (hl : 60 ≤ LF.length) (hcap : 1 ≤ capF) (hgc : gF ≠ c)
    (hs : subV LF 0 60 = frV 5 gas val inp B A W) (lA : A.length = 20) (lB : B.length = 20) (lW : W.length = 8) (hg : gas.oneCell' = true) (hv : val.oneCell' = true) (hi : inp.oneCell' = true) (hW : Flat W) :
    Calls Sang.prog 95 #[.pointer (some ⟨c, 0, none⟩), .int .u8 2, (.slice none 0 0)] w fun e w' => e = .returned (.tuple #[]) ∧ VB w' c 75 (((((((layV L 0 W).set 10 (.slice none 0 0)).set 9 (.slice (some ⟨gF, 0, none⟩) 0 0)).set 9 (.slice none 0 0)).set 11 (.int .u8 2)).set 12 (.int .u8 2)).set 16 (.slice none 0 0)) ∧ Fr w.heap.size (· = c) w w' := by
  have fF := frV_flat 5 gas val inp B A W hg hv hi hW
  have fl := frV_length 5 gas val inp B A W lB lA lW
  have fs := frV_saved 5 gas val inp B A W lB lA lW
  have f0 : (frV 5 gas val inp B A W)[0]? = some (.int .u8 0) := rfl
  have f4 : (frV 5 gas val inp B A W)[4]? = some gas := rfl
  obtain ⟨F, HF⟩ : ∃ F, Hid (∀ _ : Unit, frV 5 gas val inp B A W = F) := ⟨_, fun _ => rfl⟩
  rw [HF.out ()] at hs fF fl fs f0 f4
  have hcl := h.lt
  have ew0 : IntKind.i64.wrap 0 = 0 := by rw [IntKind.wrap_i64]; rfl
  have ew1 : IntKind.i64.wrap (1 - 1) = 0 := by rw [IntKind.wrap_i64]; rfl
  have hcapI : (1 : Int) ≤ (capF : Int) := by omega
  have hz : VB (w.alloc (.cells #[Value.int IntKind.u8 0, Value.int IntKind.u8 0, Value.bool false, Value.slice none 0 0, Value.slice none 0 0, Value.slice none 0 0, Value.slice none 0 0, Value.slice none 0 0, Value.slice none 0 0, Value.slice none 0 0, Value.slice none 0 0, Value.slice none 0 0, Value.int IntKind.u8 0, Value.int IntKind.u8 0, Value.int IntKind.u8 0, Value.int IntKind.u8 0, Value.int IntKind.u8 0, Value.int IntKind.u8 0, Value.int IntKind.u8 0, Value.int IntKind.u8 0, Value.int IntKind.u8 0, Value.int IntKind.u8 0, Value.int IntKind.u8 0, Value.int IntKind.u8 0, Value.int IntKind.u8 0, Value.int IntKind.u8 0, Value.int IntKind.u8 0, Value.int IntKind.u8 0, Value.int IntKind.u8 0, Value.int IntKind.u8 0, Value.int IntKind.u8 0, Value.int IntKind.u8 0, Value.int IntKind.u8 0, Value.int IntKind.u8 0, Value.int IntKind.u8 0, Value.int IntKind.u8 0, Value.int IntKind.u8 0, Value.int IntKind.u8 0, Value.int IntKind.u8 0, Value.int IntKind.u8 0, Value.int IntKind.u8 0, Value.int IntKind.u8 0, Value.int IntKind.u8 0, Value.int IntKind.u8 0, Value.int IntKind.u8 0, Value.int IntKind.u8 0, Value.int IntKind.u8 0, Value.int IntKind.u8 0, Value.int IntKind.u8 0, Value.int IntKind.u8 0, Value.int IntKind.u8 0, Value.int IntKind.u8 0, Value.slice none 0 0, Value.slice none 0 0, Value.slice none 0 0, Value.slice none 0 0, Value.slice none 0 0, Value.slice none 0 0, Value.slice none 0 0, Value.slice none 0 0] 119)).drew w.heap.size 119 zfV := (VB.newAt rfl (by rfl) : VB (w.alloc (.cells #[Value.int IntKind.u8 0, Value.int IntKind.u8 0, Value.bool false, Value.slice none 0 0, Value.slice none 0 0, Value.slice none 0 0, Value.slice none 0 0, Value.slice none 0 0, Value.slice none 0 0, Value.slice none 0 0, Value.slice none 0 0, Value.slice none 0 0, Value.int IntKind.u8 0, Value.int IntKind.u8 0, Value.int IntKind.u8 0, Value.int IntKind.u8 0, Value.int IntKind.u8 0, Value.int IntKind.u8 0, Value.int IntKind.u8 0, Value.int IntKind.u8 0, Value.int IntKind.u8 0, Value.int IntKind.u8 0, Value.int IntKind.u8 0, Value.int IntKind.u8 0, Value.int IntKind.u8 0, Value.int IntKind.u8 0, Value.int IntKind.u8 0, Value.int IntKind.u8 0, Value.int IntKind.u8 0, Value.int IntKind.u8 0, Value.int IntKind.u8 0, Value.int IntKind.u8 0, Value.int IntKind.u8 0, Value.int IntKind.u8 0, Value.int IntKind.u8 0, Value.int IntKind.u8 0, Value.int IntKind.u8 0, Value.int IntKind.u8 0, Value.int IntKind.u8 0, Value.int IntKind.u8 0, Value.int IntKind.u8 0, Value.int IntKind.u8 0, Value.int IntKind.u8 0, Value.int IntKind.u8 0, Value.int IntKind.u8 0, Value.int IntKind.u8 0, Value.int IntKind.u8 0, Value.int IntKind.u8 0, Value.int IntKind.u8 0, Value.int IntKind.u8 0, Value.int IntKind.u8 0, Value.int IntKind.u8 0, Value.slice none 0 0, Value.slice none 0 0, Value.slice none 0 0, Value.slice none 0 0, Value.slice none 0 0, Value.slice none 0 0, Value.slice none 0 0, Value.slice none 0 0] 119)) w.heap.size 119 zfV).drew
  have lz : zfV.length = 60 := by kernel_rfl
  have la : layV zfV 0 F = F := layV_all _ _ (by omega)
  have q := hz.q
  have hSall : ∀ w', Fr w.heap.size no w w' → (Fr w.heap.size no w w' ∧ w'.cell? ⟨c, 9, none⟩ = some (.slice (some ⟨gF, 0, none⟩) 1 capF) ∧ (loadVar 119 ⟨gF, 0, none⟩).run Sang.prog w' = .ok (.agg F.toArray) w') := fun w' f => by
    have h' := h.fr f h.lt (fun x => x)
    have hF' := hF.fr f hF.lt (fun x => x)
    have qq := hF'.q
    refine ⟨f, h'.cell 9 c9, ?_⟩
    rw [ld119 w' gF 0 qq.2.2 (by rw [qq.1]; omega), qq.1, hs]
  have hx0 := hSall w.drew (Fr.refl _ _ _).drew
  have hx1 := hSall (w.alloc (.cells #[Value.int IntKind.u8 0, Value.int IntKind.u8 0, Value.bool false, Value.slice none 0 0, Value.slice none 0 0, Value.slice none 0 0, Value.slice none 0 0, Value.slice none 0 0, Value.slice none 0 0, Value.slice none 0 0, Value.slice none 0 0, Value.slice none 0 0, Value.int IntKind.u8 0, Value.int IntKind.u8 0, Value.int IntKind.u8 0, Value.int IntKind.u8 0, Value.int IntKind.u8 0, Value.int IntKind.u8 0, Value.int IntKind.u8 0, Value.int IntKind.u8 0, Value.int IntKind.u8 0, Value.int IntKind.u8 0, Value.int IntKind.u8 0, Value.int IntKind.u8 0, Value.int IntKind.u8 0, Value.int IntKind.u8 0, Value.int IntKind.u8 0, Value.int IntKind.u8 0, Value.int IntKind.u8 0, Value.int IntKind.u8 0, Value.int IntKind.u8 0, Value.int IntKind.u8 0, Value.int IntKind.u8 0, Value.int IntKind.u8 0, Value.int IntKind.u8 0, Value.int IntKind.u8 0, Value.int IntKind.u8 0, Value.int IntKind.u8 0, Value.int IntKind.u8 0, Value.int IntKind.u8 0, Value.int IntKind.u8 0, Value.int IntKind.u8 0, Value.int IntKind.u8 0, Value.int IntKind.u8 0, Value.int IntKind.u8 0, Value.int IntKind.u8 0, Value.int IntKind.u8 0, Value.int IntKind.u8 0, Value.int IntKind.u8 0, Value.int IntKind.u8 0, Value.int IntKind.u8 0, Value.int IntKind.u8 0, Value.slice none 0 0, Value.slice none 0 0, Value.slice none 0 0, Value.slice none 0 0, Value.slice none 0 0, Value.slice none 0 0, Value.slice none 0 0, Value.slice none 0 0] 119)).drew (((Fr.refl _ _ _).alloc (Nat.le_refl _) _).drew)
  have hx2 := hSall (setV (w.alloc (.cells #[Value.int IntKind.u8 0, Value.int IntKind.u8 0, Value.bool false, Value.slice none 0 0, Value.slice none 0 0, Value.slice none 0 0, Value.slice none 0 0, Value.slice none 0 0, Value.slice none 0 0, Value.slice none 0 0, Value.slice none 0 0, Value.slice none 0 0, Value.int IntKind.u8 0, Value.int IntKind.u8 0, Value.int IntKind.u8 0, Value.int IntKind.u8 0, Value.int IntKind.u8 0, Value.int IntKind.u8 0, Value.int IntKind.u8 0, Value.int IntKind.u8 0, Value.int IntKind.u8 0, Value.int IntKind.u8 0, Value.int IntKind.u8 0, Value.int IntKind.u8 0, Value.int IntKind.u8 0, Value.int IntKind.u8 0, Value.int IntKind.u8 0, Value.int IntKind.u8 0, Value.int IntKind.u8 0, Value.int IntKind.u8 0, Value.int IntKind.u8 0, Value.int IntKind.u8 0, Value.int IntKind.u8 0, Value.int IntKind.u8 0, Value.int IntKind.u8 0, Value.int IntKind.u8 0, Value.int IntKind.u8 0, Value.int IntKind.u8 0, Value.int IntKind.u8 0, Value.int IntKind.u8 0, Value.int IntKind.u8 0, Value.int IntKind.u8 0, Value.int IntKind.u8 0, Value.int IntKind.u8 0, Value.int IntKind.u8 0, Value.int IntKind.u8 0, Value.int IntKind.u8 0, Value.int IntKind.u8 0, Value.int IntKind.u8 0, Value.int IntKind.u8 0, Value.int IntKind.u8 0, Value.int IntKind.u8 0, Value.slice none 0 0, Value.slice none 0 0, Value.slice none 0 0, Value.slice none 0 0, Value.slice none 0 0, Value.slice none 0 0, Value.slice none 0 0, Value.slice none 0 0] 119)).drew w.heap.size 119 F) ((((Fr.refl _ _ _).alloc (Nat.le_refl _) _).drew).setV (.inl (Nat.le_refl _)) _ _)
  go_enter Sang.func95, Sang.ntmps95
  go_wp2_with fail
  go_region_held3 (fun w' => Fr w.heap.size no w w' ∧ w'.cell? ⟨c, 9, none⟩ = some (.slice (some ⟨gF, 0, none⟩) 1 capF) ∧ (loadVar 119 ⟨gF, 0, none⟩).run Sang.prog w' = .ok (.agg F.toArray) w')
    (first | exact hx0 | exact hx1 | exact hx2) (fail)
  have hX := VB.setV hz.lt 119 F
  have h1 := h.fr hx2.1 h.lt (fun x => x)
  have hf := hx2.1
  clear q hz hx0 hx1 hx2 hSall
  generalize setV (w.alloc (.cells #[Value.int IntKind.u8 0, Value.int IntKind.u8 0, Value.bool false, Value.slice none 0 0, Value.slice none 0 0, Value.slice none 0 0, Value.slice none 0 0, Value.slice none 0 0, Value.slice none 0 0, Value.slice none 0 0, Value.slice none 0 0, Value.slice none 0 0, Value.int IntKind.u8 0, Value.int IntKind.u8 0, Value.int IntKind.u8 0, Value.int IntKind.u8 0, Value.int IntKind.u8 0, Value.int IntKind.u8 0, Value.int IntKind.u8 0, Value.int IntKind.u8 0, Value.int IntKind.u8 0, Value.int IntKind.u8 0, Value.int IntKind.u8 0, Value.int IntKind.u8 0, Value.int IntKind.u8 0, Value.int IntKind.u8 0, Value.int IntKind.u8 0, Value.int IntKind.u8 0, Value.int IntKind.u8 0, Value.int IntKind.u8 0, Value.int IntKind.u8 0, Value.int IntKind.u8 0, Value.int IntKind.u8 0, Value.int IntKind.u8 0, Value.int IntKind.u8 0, Value.int IntKind.u8 0, Value.int IntKind.u8 0, Value.int IntKind.u8 0, Value.int IntKind.u8 0, Value.int IntKind.u8 0, Value.int IntKind.u8 0, Value.int IntKind.u8 0, Value.int IntKind.u8 0, Value.int IntKind.u8 0, Value.int IntKind.u8 0, Value.int IntKind.u8 0, Value.int IntKind.u8 0, Value.int IntKind.u8 0, Value.int IntKind.u8 0, Value.int IntKind.u8 0, Value.int IntKind.u8 0, Value.int IntKind.u8 0, Value.slice none 0 0, Value.slice none 0 0, Value.slice none 0 0, Value.slice none 0 0, Value.slice none 0 0, Value.slice none 0 0, Value.slice none 0 0, Value.slice none 0 0] 119)).drew w.heap.size 119 F = w1 at hX h1 hf ⊢
  have k4 := hX.cell 4 f4
  have k0 := hX.cell 0 f0
  go_wp2_with fail
  refine (creates_zero w1).mono ?_
  rintro e w2 ⟨rfl, rfl⟩
  have qX := hX.q
  have q1 := h1.q
  have h1' := VB.setV h1.lt 75 (layV L 0 W)
  have lM0 : (layV L 0 W).length = 179 := by rw [layV_length, lL]
  have k10 := h1'.cell 10 (List.getElem?_eq_getElem (show 10 < (layV L 0 W).length by omega))
  have z10 := h1'.unfrozen 10
  go_wp2_with fail
  have h2 := h1'.set (i := 10) (by omega) (.slice none 0 0)
  have hf2 := ((Fr.weak (X := (· = c)) hf).setV (b := c) (.inr rfl) 75 (layV L 0 W)).setCell (p := ⟨c, 10, none⟩) (.inr rfl) (.slice none 0 0)
  have lM : ((layV L 0 W).set 10 (.slice none 0 0)).length = 179 := by rw [List.length_set, lM0]
  have m9 : ((layV L 0 W).set 10 (.slice none 0 0))[9]? = some (.slice (some ⟨gF, 0, none⟩) 1 capF) := by
    rw [List.getElem?_set_ne (by decide), layV_get W L 0 9 (by omega), if_neg (by omega)]
    exact c9
  clear k10 z10 h1 hf k4 k0 h1' q1 qX
  generalize (setV w2 c 75 (layV L 0 W)).setCell ⟨c, 10, none⟩ (.slice none 0 0) = w3 at h2 hf2 ⊢
  generalize hMe : (layV L 0 W).set 10 (.slice none 0 0) = M at h2 lM m9
  have HMe0 : Hid (∀ _ : Unit, _ = M) := fun _ => hMe
  clear hMe
  go_cut [88] (fun s88 wx => s88 = .slice (some ⟨gF, 0, none⟩) 0 0 ∧ wx = w3.drew.setCell ⟨c, 9, none⟩ (.slice (some ⟨gF, 0, none⟩) 0 0))
  case first =>
    have k9 := h2.drew.cell 9 m9
    have z9 := h2.drew.unfrozen 9
    go_region_with fail
    all_goals (go_wp2_with fail; go_meet; exact ⟨rfl, rfl⟩)
  case rest =>
  obtain ⟨rfl, rfl⟩ := hcut
  have h3 := h2.drew.set (i := 9) (by omega) (.slice (some ⟨gF, 0, none⟩) 0 0)
  have hf3 := hf2.drew.setCell (p := ⟨c, 9, none⟩) (.inr rfl) (.slice (some ⟨gF, 0, none⟩) 0 0)
  have lN : (M.set 9 (.slice (some ⟨gF, 0, none⟩) 0 0)).length = 179 := by simp [lM]
  have n9 : (M.set 9 (.slice (some ⟨gF, 0, none⟩) 0 0))[9]? = some (.slice (some ⟨gF, 0, none⟩) 0 0) := List.getElem?_set_self (by omega)
  clear h2 hf2 m9
  generalize w3.drew.setCell ⟨c, 9, none⟩ (.slice (some ⟨gF, 0, none⟩) 0 0) = w4 at h3 hf3 ⊢
  generalize hNe : M.set 9 (.slice (some ⟨gF, 0, none⟩) 0 0) = N at h3 lN n9
  have HMe := HMe0
  have HNe : Hid (∀ _ : Unit, _ = N) := fun _ => hNe
  clear hNe
  have g9 := h3.cell 9 n9
  have z9 := h3.unfrozen 9
  have h4 := h3.set (i := 9) (by omega) (.slice none 0 0)
  have g11 := h4.cell 11 (List.getElem?_eq_getElem (show 11 < (N.set 9 (.slice none 0 0)).length by simp; omega))
  have z11 := h4.unfrozen 11
  have h5 := h4.set (i := 11) (by simp; omega) (.int .u8 2)
  have g12 := h5.cell 12 (List.getElem?_eq_getElem (show 12 < ((N.set 9 (.slice none 0 0)).set 11 (.int .u8 2)).length by simp; omega))
  have z12 := h5.unfrozen 12
  have h6 := h5.set (i := 12) (by simp; omega) (.int .u8 2)
  have g16 := h6.cell 16 (List.getElem?_eq_getElem (show 16 < (((N.set 9 (.slice none 0 0)).set 11 (.int .u8 2)).set 12 (.int .u8 2)).length by simp; omega))
  have z16 := h6.unfrozen 16
  have h7 := h6.set (i := 16) (by simp; omega) (.slice none 0 0)
  have hf7 := (((hf3.setCell (p := ⟨c, 9, none⟩) (.inr rfl) (.slice none 0 0)).setCell (p := ⟨c, 11, none⟩) (.inr rfl) (.int .u8 2)).setCell (p := ⟨c, 12, none⟩) (.inr rfl) (.int .u8 2)).setCell (p := ⟨c, 16, none⟩) (.inr rfl) (.slice none 0 0)
  go_wp2_with fail
  rw [← HNe.out (), ← HMe.out ()] at h7
  exact bodyPost_ret (results_none Sang.results95 _ _ _) rfl ⟨rfl, h7, hf7⟩

end Go.Proofs.YgcsanGreat
