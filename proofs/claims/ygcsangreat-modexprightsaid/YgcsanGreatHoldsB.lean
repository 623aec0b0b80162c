/-
  Package law: modExpRightHolds where the input is taken.
-/
import Derived.Test.YgcsanGreatMem
import Derived.Test.YgcsanGreatFee
import Derived.Test.YgcsanGreatHolds
namespace Go.Proofs.YgcsanGreat
open Go.RowKit
set_option linter.unusedSimpArgs false
set_option linter.unusedVariables false
attribute [-go_sem] loadVar storeVar Instr.build Instr.fill Instr.buildSlice Builtin.append_


set_option maxRecDepth 10000 in
set_option maxHeartbeats 1000000 in
theorem mrHolds_ok (lb le lm b e m : Nat) (to value D : List Nat) (data out : Value) (R : List Value) (w : World) (h1 : to.length = 20) (h2 : value.length = 32) (g0 : lb ≤ 64) (g1 : le ≤ 64) (g2 : lm ≤ 64) (gb : b < 256) (ge : e < 256) (gm : m < 256)
    (hD : Sl w .u8 data D) (hs : D.length ≤ 65536) (used : Nat) (hu : used = intrN D + costN 5 (mxIn lb le lm b e m)) (hcb : costN 5 (mxIn lb le lm b e m) ≤ 65536)
    (r0 : R[0]? = some (.int .u8 0)) (r1 : R[1]? = some (.int .u8 0)) (r2 : R[2]? = some (.int .u64 (used : Int))) (r3 : R[3]? = some out) (ho : Sl w .u8 out (outN (mxIn lb le lm b e m))) :
    Calls Sang.prog 13 #[.int .u8 (lb : Int), .int .u8 (le : Int), .int .u8 (lm : Int), .int .u8 (b : Int), .int .u8 (e : Int), .int .u8 (m : Int), .agg (txV to value data).toArray, .agg R.toArray] w fun e' w' => e' = .returned (.bool true) ∧ Fr w.heap.size no w w' := by
  have hTl := txV_length to value data h1 h2
  have hwant := fun w => want_ok lb le lm b e m w g0 g1 g2 gb ge gm
  have hintr := fun w hD => intrinsicOf_any to value D data w h1 h2 hD hs
  have hib : intrN D ≤ 21000 + 16 * 65536 := by have := nz_le D; unfold intrN; omega
  generalize costN 5 (mxIn lb le lm b e m) = c at *
  generalize outN (mxIn lb le lm b e m) = O at *
  generalize intrN D = g at *
  generalize txV to value data = T at *
  have HW : Hid (∀ w : World, Calls Sang.prog 39 #[.int .u8 (lb : Int), .int .u8 (le : Int), .int .u8 (lm : Int), .int .u8 (b : Int), .int .u8 (e : Int), .int .u8 (m : Int)] w fun e' w' => ∃ v', e' = .returned (.tuple #[v', .int .u64 (c : Nat), .bool true]) ∧ Sl w' .u8 v' O ∧ Fr w.heap.size no w w') := hwant
  have HI : Hid (∀ w, Sl w .u8 data D → Calls Sang.prog 40 #[.agg T.toArray] w fun e w' => e = .returned (.int .u64 (g : Nat)) ∧ Fr w.heap.size no w w') := hintr
  have eU : (g : Int) + (c : Int) = (used : Int) := by omega
  have hg : (g : Int) ≤ 1069576 := by omega
  have hc : (c : Int) ≤ 65536 := by omega
  clear hwant hintr hib hu hcb g0 g1 g2 gb ge gm hs
  have hT : VB ((w.alloc (.cells T.toArray 30)).alloc (.cells R.toArray 37)) w.heap.size 30 T := (VB.new w 30 T).alloc _
  have hR : VB ((w.alloc (.cells T.toArray 30)).alloc (.cells R.toArray 37)) (w.heap.size + 1) 37 R := VB.newAt (by simp) rfl
  have hf : Fr w.heap.size no w ((w.alloc (.cells T.toArray 30)).alloc (.cells R.toArray 37)) := ((Fr.refl _ _ _).alloc (Nat.le_refl _) _).alloc (by simp) _
  go_enter Sang.func13, Sang.ntmps13
  go_wp2_with fail
  generalize (w.alloc (.cells T.toArray 30)).alloc (.cells R.toArray 37) = w1 at hT hR hf ⊢
  refine (HW.out w1).mono ?_
  rintro e' w2 ⟨vo, rfl, hvo, hfx⟩
  replace hT := hT.fr hfx hT.lt (fun x => x)
  replace hR := hR.fr hfx hR.lt (fun x => x)
  replace hf := hf.step hfx hf.size (fun _ _ x => x)
  clear hfx HW
  go_wp2_with fail
  have hTd := hT.drew
  have hRd := hR.drew
  have hfd := hf.drew
  have hvod : Sl w2.drew .u8 vo O := hvo
  have hSall : ∀ w', VB w' w.heap.size 30 T → VB w' (w.heap.size + 1) 37 R → ((loadVar 30 ⟨w.heap.size, 0, none⟩).run Sang.prog w' = .ok (.agg T.toArray) w' ∧ w'.cell? ⟨w.heap.size + 1, 0, none⟩ = some (.int .u8 0) ∧ w'.cell? ⟨w.heap.size + 1, 1, none⟩ = some (.int .u8 0) ∧ w'.cell? ⟨w.heap.size + 1, 2, none⟩ = some (.int .u64 (used : Int)) ∧ w'.cell? ⟨w.heap.size + 1, 3, none⟩ = some out) := by
    intro w' h h'
    refine ⟨?_, h'.cell 0 r0, h'.cell 1 r1, h'.cell 2 r2, h'.cell 3 r3⟩
    have q := h.q
    have := ld30 w' w.heap.size 0 q.2.2 (by rw [q.1]; omega)
    rw [q.1, subV, List.drop_zero, List.take_of_length_le (by omega)] at this
    exact this
  have ew2 : IntKind.u64.wrap (used : Int) = (used : Int) := by rw [IntKind.wrap_u64]; omega
  go_region_held3 (fun w' => (loadVar 30 ⟨w.heap.size, 0, none⟩).run Sang.prog w' = .ok (.agg T.toArray) w' ∧ w'.cell? ⟨w.heap.size + 1, 0, none⟩ = some (.int .u8 0) ∧ w'.cell? ⟨w.heap.size + 1, 1, none⟩ = some (.int .u8 0) ∧ w'.cell? ⟨w.heap.size + 1, 2, none⟩ = some (.int .u64 (used : Int)) ∧ w'.cell? ⟨w.heap.size + 1, 3, none⟩ = some out)
    (exact hSall _ (by assumption) (by assumption))
    (first
    | (go_at_call 40; (with_reducible refine (HI.out w2.drew (hD.fr hfd)).mono ?_); rintro e' w3 ⟨rfl, hf3⟩; have hR3 := hRd.fr hf3 hRd.lt (fun x => x); have hT3 := hTd.fr hf3 hTd.lt (fun x => x); have hfw3 := hfd.step hf3 hfd.size (fun _ _ x => x); have hvo3 := hvod.fr hf3)
    | (go_at_call 41; (with_reducible refine (equalBytes_same out vo O w3 (ho.fr hfw3) hvo3).mono ?_); rintro e' w4 ⟨rfl, rfl⟩))
  all_goals (go_wp2_with fail; go_ret; exact ⟨rfl, hfw3⟩)
end Go.Proofs.YgcsanGreat
