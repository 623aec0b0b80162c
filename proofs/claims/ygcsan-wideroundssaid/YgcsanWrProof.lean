/-
  law.WideRounds: the row.
-/
import Derived.Test.YgcsanRows
import Derived.Test.YgcsanOpen
import Derived.Test.YgcsanWrB
import Derived.WalkKit
import Derived.ProofKit
import Derived.OpenShut
import Derived.ShutString
import Derived.ChangeOld
import Derived.Below
namespace Go.Proofs.Ygcsan.wideRounds
open Go.ChangeShapes Go.WideShapes Go.ChangeAt Go.RowKit
set_option linter.unusedVariables false

theorem own : ownKnob Sang.prog.godebug = none := by kernel_rfl
theorem laidOut : laidOutB Sang.prog = true := by kernel_rfl
theorem cells5 : Sang.prog.cellsOf 5 = 1 := by kernel_rfl
theorem cells22 : Sang.prog.cellsOf 22 = 64 := by kernel_rfl
theorem cells23 : Sang.prog.cellsOf 23 = 128 := by kernel_rfl

set_option maxRecDepth 100000 in
theorem lifted (os : Os) (started : os.Started) (H : Type) (enc : TypeId × Value → H) :
    ReturnsInHanded {} Sang.checked os 3 .any (Rows.wideRoundsSpec.pre6 enc Sang.prog Sang.f3 Rows.wideRoundsRow.domain false) (Rows.wideRoundsSpec.post enc Sang.prog Sang.f3 false true false false) := by
  refine returnsInHanded_of_change (C := Sang.checked) own started (by kernel_rfl) Sang.func3
    (ChangeSpec.witness6 (enc := enc) (C := Sang.checked) false ⟨#[], #[.agg (ints .u8 (List.replicate 64 0)), .agg (ints .u8 (List.replicate 64 0)), .agg (ints .u8 (List.replicate 64 0)), .agg (ints .u8 (List.replicate 128 0))], []⟩ 8 (by kernel_rfl) (by kernel_rfl) (by kernel_rfl) (by kernel_rfl)) ?_
  intro W base args ds gs before hval0 hW hcnd _
  have hval : ∀ (j : Nat) t v, Sang.f3.params[j]? = some t → args[j]? = some v → Value.okWide Sang.prog W .any base t v := hval0
  have hW' := hW
  obtain ⟨p, q, hA0, hV, rfl, hfz, hnd⟩ := hW
  have hA : DataW.TrodAll enc Sang.prog W 0 (fun _ => true) true Sang.f3.params.toList args.toList ds p := hA0
  rw [Sang.params3] at hA hval
  obtain ⟨v0, vs0, d0, ds0, p0, q0, hargs, rfl, rfl, h0, r0⟩ := trodAll_cons hA
  obtain ⟨v1, vs1, d1, ds1, p1, q1, rfl, rfl, rfl, h1, r1⟩ := trodAll_cons r0
  obtain ⟨v2, vs2, d2, ds2, p2, q2, rfl, rfl, rfl, h2, r2⟩ := trodAll_cons r1
  obtain ⟨v3, vs3, d3, ds3, p3, q3, rfl, rfl, rfl, h3, r3⟩ := trodAll_cons r2
  obtain ⟨rfl, rfl, rfl⟩ := trodAll_nil r3
  obtain rfl : args = #[v0, v1, v2, v3] := by cases args; simp_all
  obtain ⟨rfl, rfl⟩ := trodVars_none hV
  have lt0 : ∀ x ∈ p0, x.block < W.heap.size := by obtain ⟨m, hm⟩ := h0; exact DataW.trod_lt m _ _ _ hm
  have lt1 : ∀ x ∈ p1, x.block < W.heap.size := by obtain ⟨m, hm⟩ := h1; exact DataW.trod_lt m _ _ _ hm
  have lt2 : ∀ x ∈ p2, x.block < W.heap.size := by obtain ⟨m, hm⟩ := h2; exact DataW.trod_lt m _ _ _ hm
  have lt3 : ∀ x ∈ p3, x.block < W.heap.size := by obtain ⟨m, hm⟩ := h3; exact DataW.trod_lt m _ _ _ hm
  obtain ⟨A, rfl, lA, dA⟩ := open_bytes und22 Sang.underlying5 cells22 cells5 (hval 0 22 v0 rfl rfl) h0
  obtain ⟨B, rfl, lB, dB⟩ := open_bytes und22 Sang.underlying5 cells22 cells5 (hval 1 22 v1 rfl rfl) h1
  obtain ⟨M, rfl, lM, dM⟩ := open_bytes und22 Sang.underlying5 cells22 cells5 (hval 2 22 v2 rfl rfl) h2
  obtain ⟨X, rfl, lX, dX⟩ := open_bytes und23 Sang.underlying5 cells23 cells5 (hval 3 23 v3 rfl rfl) h3
  clear hA0 hval0
  refine (wideRounds_any A B M X W lA lB lM lX dA dB dM dX).mono fun e W' ⟨he, hfr⟩ => ?_
  have bel := hfr.below
  subst he
  exact ⟨_, rfl, _, _, _, [], _, [], hW', trodAll_mk1 (shut_bool Sang.underlying4 _),
    (trodAll_cons_mk (Below.trod laidOut (by kernel_rfl) (of_decide_eq_true (by kernel_rfl)) h0 bel lt0) (trodAll_cons_mk (Below.trod laidOut (by kernel_rfl) (of_decide_eq_true (by kernel_rfl)) h1 bel lt1)
      (trodAll_cons_mk (Below.trod laidOut (by kernel_rfl) (of_decide_eq_true (by kernel_rfl)) h2 bel lt2) (trodAll_cons_mk (Below.trod laidOut (by kernel_rfl) (of_decide_eq_true (by kernel_rfl)) h3 bel lt3) trodAll_mk0)))), rfl, bel.frame _, fun h => by cases h⟩

theorem over : Rows.wideRoundsRow.holds Sang.pinned (OpenSpec.ofChange Rows.wideRoundsSpec) :=
  OpenClaim.holds_of_wide 3 Sang.f3 rfl rfl rfl rfl rfl rfl rfl ⟨rfl, rfl, rfl, rfl, rfl⟩ rfl rfl rfl rfl rfl (by kernel_rfl) Sang.func3 (by kernel_rfl)
    (of_decide_eq_true (by kernel_rfl)) (by unfold Func.isWrapper; first | (rw [if_pos (by decide +kernel)]; kernel_rfl) | (rw [if_neg (by decide +kernel)]; exact ⟨rfl, rfl⟩))
    (fun os started H enc _ => lifted os started H enc)

/-- THE STATEMENT -/
theorem proved : Rows.WideRoundsSaid := over
end Go.Proofs.Ygcsan.wideRounds
