/-
  Package law: modExpRightHolds.
-/
import Derived.Test.YgcsanGreatWantC
import Derived.Deep.RegionHeld3
namespace Go.Proofs.YgcsanGreat
open Go.RowKit
set_option linter.unusedSimpArgs false
set_option linter.unusedVariables false

set_option maxRecDepth 10000 in
set_option maxHeartbeats 600000 in
theorem mrHolds_no (lb le lm b e m : Nat) (to value : List Nat) (data out : Value) (n cap : Nat) (R : List Value) (w : World) (h1 : to.length = 20) (h2 : value.length = 32) (hno : ¬ (lb ≤ 64 ∧ le ≤ 64 ∧ lm ≤ 64))
    (r0 : R[0]? = some (.int .u8 0)) (r1 : R[1]? = some (.int .u8 2)) (r2 : R[2]? = some (.int .u64 200000)) (r3 : R[3]? = some out) (ho : Sl w .u8 out []) :
    Calls Sang.prog 13 #[.int .u8 (lb : Int), .int .u8 (le : Int), .int .u8 (lm : Int), .int .u8 (b : Int), .int .u8 (e : Int), .int .u8 (m : Int), .agg (txV to value data).toArray, .agg R.toArray] w fun e' w' => e' = .returned (.bool true) ∧ Fr w.heap.size no w w' := by
  have c1 := txV_gas to value data h1 h2
  generalize txV to value data = T at *
  obtain ⟨oa, oc, rfl, -⟩ := ho
  have hw := fun w => want_no lb le lm b e m w hno
  clear hno
  have hT : VB ((w.alloc (.cells T.toArray 30)).alloc (.cells R.toArray 37)) w.heap.size 30 T := (VB.new w 30 T).alloc _
  have hR : VB ((w.alloc (.cells T.toArray 30)).alloc (.cells R.toArray 37)) (w.heap.size + 1) 37 R := VB.newAt (by simp) rfl
  have hf : Fr w.heap.size no w ((w.alloc (.cells T.toArray 30)).alloc (.cells R.toArray 37)) := ((Fr.refl _ _ _).alloc (Nat.le_refl _) _).alloc (by simp) _
  have k0 := hT.cell 42 c1
  have k1 := hR.cell 0 r0
  have k2 := hR.cell 1 r1
  have k3 := hR.cell 2 r2
  have k4 := hR.cell 3 r3
  clear c1 r0 r1 r2 r3 hT hR
  go_enter Sang.func13, Sang.ntmps13
  go_wp2_with fail
  generalize (w.alloc (.cells T.toArray 30)).alloc (.cells R.toArray 37) = w1 at k0 k1 k2 k3 k4 hf ⊢
  refine (hw w1).mono ?_
  clear hw
  rintro e' w1 ⟨rfl, rfl⟩
  go_wp2_with fail
  go_ret
  exact ⟨rfl, hf⟩

end Go.Proofs.YgcsanGreat
