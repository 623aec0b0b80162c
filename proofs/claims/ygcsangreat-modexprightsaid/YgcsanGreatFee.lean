/-
  Package obs: Tx.ListOK; package yp: State.baseFee.
-/
import Derived.Test.YgcsanGreatIntrY
namespace Go.Proofs.YgcsanGreat
open Go.RowKit
set_option linter.unusedSimpArgs false
set_option linter.unusedVariables false

set_option maxRecDepth 10000 in
set_option maxHeartbeats 400000 in
theorem listOK_any (b : Nat) (t : TypeId) (T : List Value) (w : World) (h : VB w b t T) (c : T[173]? = some (.slice none 0 0)) :
    Calls Sang.prog 133 #[.pointer (some ⟨b, 0, none⟩)] w fun e w' => e = .returned (.bool true) ∧ w' = w := by
  have k := h.cell 173 c
  clear h c
  go_enter Sang.func133, Sang.ntmps133
  go_wp2_with fail
  go_loop [17, 3] (fun iv kv => iv = .int .i64 0 ∧ kv = .int .i64 0) (fun _ _ => 0)
  case atStart => exact ⟨rfl, rfl⟩
  case round =>
    obtain ⟨rfl, rfl⟩ := hrel
    go_wp2_with fail
    go_ret
    exact ⟨rfl, rfl⟩

theorem rep_getD (n i : Nat) : (List.replicate n 0).getD i 0 = 0 := by
  by_cases h : i < n <;> simp [List.getD, List.getElem?_replicate, h]

/-- bytes inside a block of values -/
theorem Sl.of_vb {w : World} {b : Nat} {t : TypeId} {L : List Value} (h : VB w b t L) (o : Nat) (A : List Nat) (hA : ∀ i, i < A.length → L[o + i]? = some (.int .u8 ((A.getD i 0 : Nat) : Int))) (hm : A.length ≤ maxLen) :
    Sl w .u8 (.slice (some ⟨b, o, none⟩) A.length A.length) A :=
  ⟨some ⟨b, o, none⟩, A.length, rfl, Nat.le_refl _, hm, .inr ⟨b, o, rfl, fun i hi => h.cell (o + i) (hA i hi)⟩⟩

set_option maxRecDepth 10000 in
set_option maxHeartbeats 400000 in
theorem baseFee_any (c : Nat) (t : TypeId) (L : List Value) (w : World) (h : VB w c t L) (hz : ∀ i, i < 32 → L[146 + i]? = some (.int .u8 0)) :
    Calls Sang.prog 89 #[.pointer (some ⟨c, 0, none⟩)] w fun e w' => ∃ v', e = .returned v' ∧ Sl w' .u8 v' (digs 0) ∧ Fr w.heap.size no w w' := by
  have hS := Sl.of_vb h 146 (List.replicate 32 0) (fun i hi => by
    rw [List.length_replicate] at hi
    rw [hz i hi, rep_getD]
    rfl) (by decide)
  have hfb := fromBE_any _ _ w hS (Dg.replicate (by decide) _) (by decide)
  rw [List.reverse_replicate, val_replicate] at hfb
  clear hS hz h
  simp only [List.length_replicate] at hfb
  go_enter Sang.func89, Sang.ntmps89
  go_wp2_with fail
  refine hfb.mono ?_
  rintro e w1 ⟨v', rfl, hv, hf⟩
  go_wp2_with fail
  go_ret
  exact ⟨_, rfl, hv, hf⟩
end Go.Proofs.YgcsanGreat
