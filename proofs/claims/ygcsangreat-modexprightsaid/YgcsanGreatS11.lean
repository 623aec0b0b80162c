/-
  Package yp: State.price, where nothing is paid.
-/
import Derived.Test.YgcsanGreatS7
namespace Go.Proofs.YgcsanGreat
open Go.RowKit
set_option linter.unusedSimpArgs false
set_option linter.unusedVariables false
attribute [-go_sem] loadVar storeVar Instr.build Instr.fill Instr.buildSlice Builtin.append_


theorem Sl.z32 {w : World} {b : Nat} {t : TypeId} {L : List Value} (h : VB w b t L) (o : Nat) (hL : ∀ i, i < 32 → L[o + i]? = some (.int .u8 0)) : Sl w .u8 (.slice (some ⟨b, o, none⟩) 32 32) (List.replicate 32 0) :=
  Sl.of_vb h o (List.replicate 32 0) (fun i hi => by
    rw [List.length_replicate] at hi
    rw [hL i hi, rep_getD]
    rfl) (by decide)
theorem fromBE_zero {w : World} {b o : Nat} {t : TypeId} {L : List Value} (h : VB w b t L) (hL : ∀ i, i < 32 → L[o + i]? = some (.int .u8 0)) :
    Calls Sang.prog 83 #[.slice (some ⟨b, o, none⟩) 32 32] w fun e w' => ∃ v', e = .returned v' ∧ Sl w' .u8 v' (digs 0) ∧ Fr w.heap.size no w w' := by
  have := fromBE_any _ _ w (Sl.z32 h o hL) (Dg.replicate (by decide) _) (by decide)
  rw [List.reverse_replicate, val_replicate] at this
  exact this
theorem z32_at (i : Nat) (hi : i < 32) : (byV z32)[0 + i]? = some (.int .u8 0) := by
  simp only [byV, z32, Nat.zero_add, List.getElem?_map, List.getElem?_replicate, if_pos hi]
  rfl

set_option maxRecDepth 10000 in
set_option maxHeartbeats 1000000 in
theorem price_zero (c : Nat) (t : TypeId) (L T : List Value) (w : World) (h : VB w c t L) (hz : ∀ i, i < 32 → L[146 + i]? = some (.int .u8 0)) (lT : T.length = 174) (hd : T[108]? = some (.bool false)) (hp : subV T 43 32 = byV z32) :
    Calls Sang.prog 76 #[.pointer (some ⟨c, 0, none⟩), .agg T.toArray] w fun e w' => ∃ v', e = .returned v' ∧ Sl w' .u8 v' (digs 0) ∧ Fr w.heap.size no w w' := by
  have hT := VB.new w 30 T
  have h1 := h.alloc (.cells T.toArray 30)
  have hf : Fr w.heap.size no w (w.alloc (.cells T.toArray 30)) := (Fr.refl _ _ _).alloc (Nat.le_refl _) _
  have HFB : Hid (∀ w' b, VB w' b 26 (byV z32) → Calls Sang.prog 83 #[.slice (some ⟨b, 0, none⟩) 32 32] w' fun e w'' => ∃ v', e = .returned v' ∧ Sl w'' .u8 v' (digs 0) ∧ Fr w'.heap.size no w' w'') := fun w' b hb => fromBE_zero (o := 0) hb z32_at
  have HBF : Hid (∀ w', VB w' c t L → Calls Sang.prog 89 #[.pointer (some ⟨c, 0, none⟩)] w' fun e w'' => ∃ v', e = .returned v' ∧ Sl w'' .u8 v' (digs 0) ∧ Fr w'.heap.size no w' w'') := fun w' hw => baseFee_any c t L w' hw hz
  have HF : Hid (∀ w', VB w' w.heap.size 30 T → Calls Sang.prog 132 #[.pointer (some ⟨w.heap.size, 0, none⟩)] w' fun e w'' => e = .returned (.tuple #[.agg (byV z32).toArray, .agg (byV z32).toArray]) ∧ Fr w'.heap.size no w' w'') := fun w' hw => fees_any w.heap.size 30 T w' hw lT hd hp
  have lz : (byV z32).length = 32 := by rw [byV_length, z32_length]
  have fz := byV_flat z32
  have la : layV (byV z32) 0 (byV z32) = byV z32 := layV_all _ _ rfl
  have eZ : Hid ((#[Value.int IntKind.u8 0, Value.int IntKind.u8 0, Value.int IntKind.u8 0, Value.int IntKind.u8 0, Value.int IntKind.u8 0, Value.int IntKind.u8 0, Value.int IntKind.u8 0, Value.int IntKind.u8 0, Value.int IntKind.u8 0, Value.int IntKind.u8 0, Value.int IntKind.u8 0, Value.int IntKind.u8 0, Value.int IntKind.u8 0, Value.int IntKind.u8 0, Value.int IntKind.u8 0, Value.int IntKind.u8 0, Value.int IntKind.u8 0, Value.int IntKind.u8 0, Value.int IntKind.u8 0, Value.int IntKind.u8 0, Value.int IntKind.u8 0, Value.int IntKind.u8 0, Value.int IntKind.u8 0, Value.int IntKind.u8 0, Value.int IntKind.u8 0, Value.int IntKind.u8 0, Value.int IntKind.u8 0, Value.int IntKind.u8 0, Value.int IntKind.u8 0, Value.int IntKind.u8 0, Value.int IntKind.u8 0, Value.int IntKind.u8 0] : Array Value) = (byV z32).toArray) := by rfl
  clear hp hd hz
  generalize byV z32 = Z at *
  go_enter Sang.func76, Sang.ntmps76
  go_wp2_with fail
  generalize w.alloc (.cells T.toArray 30) = w1 at hT h1 hf ⊢
  refine (HF.out w1 hT).mono ?_
  rintro e w2 ⟨rfl, hfx⟩
  replace h1 := h1.fr hfx h1.lt (fun x => x)
  replace hf := hf.step hfx hf.size (fun _ _ x => x)
  clear hfx hT HF
  have h2 := (h1.alloc (.cells #[Value.int IntKind.u8 0, Value.int IntKind.u8 0, Value.int IntKind.u8 0, Value.int IntKind.u8 0, Value.int IntKind.u8 0, Value.int IntKind.u8 0, Value.int IntKind.u8 0, Value.int IntKind.u8 0, Value.int IntKind.u8 0, Value.int IntKind.u8 0, Value.int IntKind.u8 0, Value.int IntKind.u8 0, Value.int IntKind.u8 0, Value.int IntKind.u8 0, Value.int IntKind.u8 0, Value.int IntKind.u8 0, Value.int IntKind.u8 0, Value.int IntKind.u8 0, Value.int IntKind.u8 0, Value.int IntKind.u8 0, Value.int IntKind.u8 0, Value.int IntKind.u8 0, Value.int IntKind.u8 0, Value.int IntKind.u8 0, Value.int IntKind.u8 0, Value.int IntKind.u8 0, Value.int IntKind.u8 0, Value.int IntKind.u8 0, Value.int IntKind.u8 0, Value.int IntKind.u8 0, Value.int IntKind.u8 0, Value.int IntKind.u8 0] 26)).alloc (.cells #[Value.int IntKind.u8 0, Value.int IntKind.u8 0, Value.int IntKind.u8 0, Value.int IntKind.u8 0, Value.int IntKind.u8 0, Value.int IntKind.u8 0, Value.int IntKind.u8 0, Value.int IntKind.u8 0, Value.int IntKind.u8 0, Value.int IntKind.u8 0, Value.int IntKind.u8 0, Value.int IntKind.u8 0, Value.int IntKind.u8 0, Value.int IntKind.u8 0, Value.int IntKind.u8 0, Value.int IntKind.u8 0, Value.int IntKind.u8 0, Value.int IntKind.u8 0, Value.int IntKind.u8 0, Value.int IntKind.u8 0, Value.int IntKind.u8 0, Value.int IntKind.u8 0, Value.int IntKind.u8 0, Value.int IntKind.u8 0, Value.int IntKind.u8 0, Value.int IntKind.u8 0, Value.int IntKind.u8 0, Value.int IntKind.u8 0, Value.int IntKind.u8 0, Value.int IntKind.u8 0, Value.int IntKind.u8 0, Value.int IntKind.u8 0] 26)
  have hR1 : VB ((w2.alloc (.cells #[Value.int IntKind.u8 0, Value.int IntKind.u8 0, Value.int IntKind.u8 0, Value.int IntKind.u8 0, Value.int IntKind.u8 0, Value.int IntKind.u8 0, Value.int IntKind.u8 0, Value.int IntKind.u8 0, Value.int IntKind.u8 0, Value.int IntKind.u8 0, Value.int IntKind.u8 0, Value.int IntKind.u8 0, Value.int IntKind.u8 0, Value.int IntKind.u8 0, Value.int IntKind.u8 0, Value.int IntKind.u8 0, Value.int IntKind.u8 0, Value.int IntKind.u8 0, Value.int IntKind.u8 0, Value.int IntKind.u8 0, Value.int IntKind.u8 0, Value.int IntKind.u8 0, Value.int IntKind.u8 0, Value.int IntKind.u8 0, Value.int IntKind.u8 0, Value.int IntKind.u8 0, Value.int IntKind.u8 0, Value.int IntKind.u8 0, Value.int IntKind.u8 0, Value.int IntKind.u8 0, Value.int IntKind.u8 0, Value.int IntKind.u8 0] 26)).alloc (.cells #[Value.int IntKind.u8 0, Value.int IntKind.u8 0, Value.int IntKind.u8 0, Value.int IntKind.u8 0, Value.int IntKind.u8 0, Value.int IntKind.u8 0, Value.int IntKind.u8 0, Value.int IntKind.u8 0, Value.int IntKind.u8 0, Value.int IntKind.u8 0, Value.int IntKind.u8 0, Value.int IntKind.u8 0, Value.int IntKind.u8 0, Value.int IntKind.u8 0, Value.int IntKind.u8 0, Value.int IntKind.u8 0, Value.int IntKind.u8 0, Value.int IntKind.u8 0, Value.int IntKind.u8 0, Value.int IntKind.u8 0, Value.int IntKind.u8 0, Value.int IntKind.u8 0, Value.int IntKind.u8 0, Value.int IntKind.u8 0, Value.int IntKind.u8 0, Value.int IntKind.u8 0, Value.int IntKind.u8 0, Value.int IntKind.u8 0, Value.int IntKind.u8 0, Value.int IntKind.u8 0, Value.int IntKind.u8 0, Value.int IntKind.u8 0] 26)) w2.heap.size 26 Z := (VB.newAt rfl eZ.out).alloc _
  have hR2 : VB ((w2.alloc (.cells #[Value.int IntKind.u8 0, Value.int IntKind.u8 0, Value.int IntKind.u8 0, Value.int IntKind.u8 0, Value.int IntKind.u8 0, Value.int IntKind.u8 0, Value.int IntKind.u8 0, Value.int IntKind.u8 0, Value.int IntKind.u8 0, Value.int IntKind.u8 0, Value.int IntKind.u8 0, Value.int IntKind.u8 0, Value.int IntKind.u8 0, Value.int IntKind.u8 0, Value.int IntKind.u8 0, Value.int IntKind.u8 0, Value.int IntKind.u8 0, Value.int IntKind.u8 0, Value.int IntKind.u8 0, Value.int IntKind.u8 0, Value.int IntKind.u8 0, Value.int IntKind.u8 0, Value.int IntKind.u8 0, Value.int IntKind.u8 0, Value.int IntKind.u8 0, Value.int IntKind.u8 0, Value.int IntKind.u8 0, Value.int IntKind.u8 0, Value.int IntKind.u8 0, Value.int IntKind.u8 0, Value.int IntKind.u8 0, Value.int IntKind.u8 0] 26)).alloc (.cells #[Value.int IntKind.u8 0, Value.int IntKind.u8 0, Value.int IntKind.u8 0, Value.int IntKind.u8 0, Value.int IntKind.u8 0, Value.int IntKind.u8 0, Value.int IntKind.u8 0, Value.int IntKind.u8 0, Value.int IntKind.u8 0, Value.int IntKind.u8 0, Value.int IntKind.u8 0, Value.int IntKind.u8 0, Value.int IntKind.u8 0, Value.int IntKind.u8 0, Value.int IntKind.u8 0, Value.int IntKind.u8 0, Value.int IntKind.u8 0, Value.int IntKind.u8 0, Value.int IntKind.u8 0, Value.int IntKind.u8 0, Value.int IntKind.u8 0, Value.int IntKind.u8 0, Value.int IntKind.u8 0, Value.int IntKind.u8 0, Value.int IntKind.u8 0, Value.int IntKind.u8 0, Value.int IntKind.u8 0, Value.int IntKind.u8 0, Value.int IntKind.u8 0, Value.int IntKind.u8 0, Value.int IntKind.u8 0, Value.int IntKind.u8 0] 26)) (w2.heap.size + 1) 26 Z := VB.newAt (by simp) eZ.out
  have hf2 := (hf.alloc hf.size (.cells #[Value.int IntKind.u8 0, Value.int IntKind.u8 0, Value.int IntKind.u8 0, Value.int IntKind.u8 0, Value.int IntKind.u8 0, Value.int IntKind.u8 0, Value.int IntKind.u8 0, Value.int IntKind.u8 0, Value.int IntKind.u8 0, Value.int IntKind.u8 0, Value.int IntKind.u8 0, Value.int IntKind.u8 0, Value.int IntKind.u8 0, Value.int IntKind.u8 0, Value.int IntKind.u8 0, Value.int IntKind.u8 0, Value.int IntKind.u8 0, Value.int IntKind.u8 0, Value.int IntKind.u8 0, Value.int IntKind.u8 0, Value.int IntKind.u8 0, Value.int IntKind.u8 0, Value.int IntKind.u8 0, Value.int IntKind.u8 0, Value.int IntKind.u8 0, Value.int IntKind.u8 0, Value.int IntKind.u8 0, Value.int IntKind.u8 0, Value.int IntKind.u8 0, Value.int IntKind.u8 0, Value.int IntKind.u8 0, Value.int IntKind.u8 0] 26)).alloc (by simp only [World.size_alloc]; have := hf.size; omega) (.cells #[Value.int IntKind.u8 0, Value.int IntKind.u8 0, Value.int IntKind.u8 0, Value.int IntKind.u8 0, Value.int IntKind.u8 0, Value.int IntKind.u8 0, Value.int IntKind.u8 0, Value.int IntKind.u8 0, Value.int IntKind.u8 0, Value.int IntKind.u8 0, Value.int IntKind.u8 0, Value.int IntKind.u8 0, Value.int IntKind.u8 0, Value.int IntKind.u8 0, Value.int IntKind.u8 0, Value.int IntKind.u8 0, Value.int IntKind.u8 0, Value.int IntKind.u8 0, Value.int IntKind.u8 0, Value.int IntKind.u8 0, Value.int IntKind.u8 0, Value.int IntKind.u8 0, Value.int IntKind.u8 0, Value.int IntKind.u8 0, Value.int IntKind.u8 0, Value.int IntKind.u8 0, Value.int IntKind.u8 0, Value.int IntKind.u8 0, Value.int IntKind.u8 0, Value.int IntKind.u8 0, Value.int IntKind.u8 0, Value.int IntKind.u8 0] 26)
  have q1 := hR1.q
  have q2 := hR2.q
  have s1 := setV_self hR1
  have s2 := setV_self hR2
  go_wp2_with fail
  clear q1 q2 s1 s2 eZ
  obtain ⟨j, hj⟩ : ∃ j, j = w2.heap.size := ⟨_, rfl⟩
  generalize (w2.alloc (.cells #[Value.int IntKind.u8 0, Value.int IntKind.u8 0, Value.int IntKind.u8 0, Value.int IntKind.u8 0, Value.int IntKind.u8 0, Value.int IntKind.u8 0, Value.int IntKind.u8 0, Value.int IntKind.u8 0, Value.int IntKind.u8 0, Value.int IntKind.u8 0, Value.int IntKind.u8 0, Value.int IntKind.u8 0, Value.int IntKind.u8 0, Value.int IntKind.u8 0, Value.int IntKind.u8 0, Value.int IntKind.u8 0, Value.int IntKind.u8 0, Value.int IntKind.u8 0, Value.int IntKind.u8 0, Value.int IntKind.u8 0, Value.int IntKind.u8 0, Value.int IntKind.u8 0, Value.int IntKind.u8 0, Value.int IntKind.u8 0, Value.int IntKind.u8 0, Value.int IntKind.u8 0, Value.int IntKind.u8 0, Value.int IntKind.u8 0, Value.int IntKind.u8 0, Value.int IntKind.u8 0, Value.int IntKind.u8 0, Value.int IntKind.u8 0] 26)).alloc (.cells #[Value.int IntKind.u8 0, Value.int IntKind.u8 0, Value.int IntKind.u8 0, Value.int IntKind.u8 0, Value.int IntKind.u8 0, Value.int IntKind.u8 0, Value.int IntKind.u8 0, Value.int IntKind.u8 0, Value.int IntKind.u8 0, Value.int IntKind.u8 0, Value.int IntKind.u8 0, Value.int IntKind.u8 0, Value.int IntKind.u8 0, Value.int IntKind.u8 0, Value.int IntKind.u8 0, Value.int IntKind.u8 0, Value.int IntKind.u8 0, Value.int IntKind.u8 0, Value.int IntKind.u8 0, Value.int IntKind.u8 0, Value.int IntKind.u8 0, Value.int IntKind.u8 0, Value.int IntKind.u8 0, Value.int IntKind.u8 0, Value.int IntKind.u8 0, Value.int IntKind.u8 0, Value.int IntKind.u8 0, Value.int IntKind.u8 0, Value.int IntKind.u8 0, Value.int IntKind.u8 0, Value.int IntKind.u8 0, Value.int IntKind.u8 0] 26) = w3 at h2 hR1 hR2 hf2 ⊢
  rw [← hj] at hR1 hR2 ⊢
  clear hj
  refine (HFB.out w3 j hR1).mono ?_
  rintro e w4 ⟨v4, rfl, hv4, hfx⟩
  replace h2 := h2.fr hfx h2.lt (fun x => x)
  replace hR2 := hR2.fr hfx hR2.lt (fun x => x)
  replace hf2 := hf2.step hfx hf2.size (fun _ _ x => x)
  clear hfx hR1
  go_wp2_with fail
  refine (HBF.out w4 h2).mono ?_
  rintro e w5 ⟨v5, rfl, hv5, hfx⟩
  replace h2 := h2.fr hfx h2.lt (fun x => x)
  replace hR2 := hR2.fr hfx hR2.lt (fun x => x)
  replace hv4 := hv4.fr hfx
  replace hf2 := hf2.step hfx hf2.size (fun _ _ x => x)
  clear hfx
  go_wp2_with fail
  refine (less_any v4 v5 0 0 w5 hv4 hv5 (by decide)).mono ?_
  rintro e w6 ⟨v6, rfl, hv6, hfx⟩
  replace h2 := h2.fr hfx h2.lt (fun x => x)
  replace hR2 := hR2.fr hfx hR2.lt (fun x => x)
  replace hf2 := hf2.step hfx hf2.size (fun _ _ x => x)
  clear hfx hv4 hv5
  go_wp2_with fail
  have h2d := h2.drew
  have hR2d := hR2.drew
  have hf2d := hf2.drew
  have hv6d : Sl w6.drew .u8 v6 (digs 0) := hv6
  have H0 : Hid (0 < W64 ^ 8) := by unfold Hid; decide
  go_region_with (first
    | (go_at_call 89; (with_reducible refine (HBF.out w6.drew h2d).mono ?_); rintro e w7 ⟨v7, rfl, hv7, hf7⟩; have hR27 := hR2d.fr hf7 hR2d.lt (fun x => x); have hff7 := hf2d.step hf7 hf2d.size (fun _ _ x => x); have hv67 := hv6d.fr hf7)
    | (go_at_call 83; (with_reducible refine (HFB.out w7 (j + 1) hR27).mono ?_); rintro e w8 ⟨v8, rfl, hv8, hf8⟩; have hff8 := hff7.step hf8 hff7.size (fun _ _ x => x); have hv68 := hv67.fr hf8; have hv78 := hv7.fr hf8)
    | (go_at_call 87; (with_reducible refine (minNat_any v8 v6 0 0 w8 hv8 hv68).mono ?_); rintro e w9 ⟨v9, rfl, hv9, hf9⟩; have hff9 := hff8.step hf9 hff8.size (fun _ _ x => x); have hv79 := hv78.fr hf9; have hv9z : Sl w9 .u8 v9 (digs 0) := hv9)
    | (go_at_call 78; (with_reducible refine (addN_any v7 v9 0 0 w9 hv79 hv9z H0.out H0.out).mono ?_); rintro e wA ⟨vA, rfl, hvA, hfA⟩; have hffA := hff9.step hfA hff9.size (fun _ _ x => x)))
  all_goals (
    go_wp2_with fail
    go_ret
    exact ⟨_, rfl, hvA, hffA⟩)
end Go.Proofs.YgcsanGreat
