/-
  law.ModExpRec: the row.
-/
import Derived.Test.YgcsanRows
import Derived.Test.YgcsanOpen
import Derived.Test.YgcsanRec
import Derived.WalkKit
import Derived.ProofKit
import Derived.OpenShut
import Derived.ShutString
import Derived.ChangeOld
import Derived.Below
namespace Go.Proofs.Ygcsan.modExpRec
open Go.ChangeShapes Go.WideShapes Go.ChangeAt Go.RowKit
set_option linter.unusedVariables false

theorem own : ownKnob Sang.prog.godebug = none := by kernel_rfl
theorem laidOut : laidOutB Sang.prog = true := by kernel_rfl
theorem cells5 : Sang.prog.cellsOf 5 = 1 := by kernel_rfl
theorem cells22 : Sang.prog.cellsOf 22 = 64 := by kernel_rfl

set_option maxRecDepth 100000 in
theorem lifted (os : Os) (started : os.Started) (H : Type) (enc : TypeId × Value → H) :
    ReturnsInHanded {} Sang.checked os 4 .any (Rows.modExpRecSpec.pre6 enc Sang.prog Sang.f4 Rows.modExpRecRow.domain false) (Rows.modExpRecSpec.post enc Sang.prog Sang.f4 false true false false) := by
  refine returnsInHanded_of_change (C := Sang.checked) own started (by kernel_rfl) Sang.func4
    (ChangeSpec.witness6 (enc := enc) (C := Sang.checked) false ⟨#[], #[.agg (ints .u8 (List.replicate 64 0)), .agg (ints .u8 (List.replicate 64 0)), .agg (ints .u8 (List.replicate 64 0))], []⟩ 8 (by kernel_rfl) (by kernel_rfl) (by kernel_rfl) (by kernel_rfl)) ?_
  intro W base args ds gs before hval0 hW hcnd _
  have hval : ∀ (j : Nat) t v, Sang.f4.params[j]? = some t → args[j]? = some v → Value.okWide Sang.prog W .any base t v := hval0
  have hW' := hW
  obtain ⟨p, q, hA0, hV, rfl, hfz, hnd⟩ := hW
  have hA : DataW.TrodAll enc Sang.prog W 0 (fun _ => true) true Sang.f4.params.toList args.toList ds p := hA0
  rw [Sang.params4] at hA hval
  obtain ⟨v0, vs0, d0, ds0, p0, q0, hargs, rfl, rfl, h0, r0⟩ := trodAll_cons hA
  obtain ⟨v1, vs1, d1, ds1, p1, q1, rfl, rfl, rfl, h1, r1⟩ := trodAll_cons r0
  obtain ⟨v2, vs2, d2, ds2, p2, q2, rfl, rfl, rfl, h2, r2⟩ := trodAll_cons r1
  obtain ⟨rfl, rfl, rfl⟩ := trodAll_nil r2
  obtain rfl : args = #[v0, v1, v2] := by cases args; simp_all
  obtain ⟨rfl, rfl⟩ := trodVars_none hV
  have lt0 : ∀ x ∈ p0, x.block < W.heap.size := by obtain ⟨m, hm⟩ := h0; exact DataW.trod_lt m _ _ _ hm
  have lt1 : ∀ x ∈ p1, x.block < W.heap.size := by obtain ⟨m, hm⟩ := h1; exact DataW.trod_lt m _ _ _ hm
  have lt2 : ∀ x ∈ p2, x.block < W.heap.size := by obtain ⟨m, hm⟩ := h2; exact DataW.trod_lt m _ _ _ hm
  obtain ⟨A, rfl, lA, dA⟩ := open_bytes und22 Sang.underlying5 cells22 cells5 (hval 0 22 v0 rfl rfl) h0
  obtain ⟨B, rfl, lB, dB⟩ := open_bytes und22 Sang.underlying5 cells22 cells5 (hval 1 22 v1 rfl rfl) h1
  obtain ⟨M, rfl, lM, dM⟩ := open_bytes und22 Sang.underlying5 cells22 cells5 (hval 2 22 v2 rfl rfl) h2
  clear hA0 hval0
  refine (modExpRec_any A B M W lA lB lM dA dB dM).mono fun e W' ⟨he, hfr⟩ => ?_
  have bel := hfr.below
  subst he
  exact ⟨_, rfl, _, _, _, [], _, [], hW', trodAll_mk1 (shut_bool Sang.underlying4 _),
    (trodAll_cons_mk (Below.trod laidOut (by kernel_rfl) (of_decide_eq_true (by kernel_rfl)) h0 bel lt0) (trodAll_cons_mk (Below.trod laidOut (by kernel_rfl) (of_decide_eq_true (by kernel_rfl)) h1 bel lt1)
      (trodAll_cons_mk (Below.trod laidOut (by kernel_rfl) (of_decide_eq_true (by kernel_rfl)) h2 bel lt2) trodAll_mk0))), rfl, bel.frame _, fun h => by cases h⟩

theorem over : Rows.modExpRecRow.holds Sang.pinned (OpenSpec.ofChange Rows.modExpRecSpec) :=
  OpenClaim.holds_of_wide 4 Sang.f4 rfl rfl rfl rfl rfl rfl rfl ⟨rfl, rfl, rfl, rfl, rfl⟩ rfl rfl rfl rfl rfl (by kernel_rfl) Sang.func4 (by kernel_rfl)
    (of_decide_eq_true (by kernel_rfl)) (by unfold Func.isWrapper; first | (rw [if_pos (by decide +kernel)]; kernel_rfl) | (rw [if_neg (by decide +kernel)]; exact ⟨rfl, rfl⟩))
    (fun os started H enc _ => lifted os started H enc)

/-- THE STATEMENT -/
theorem proved : Rows.ModExpRecSaid := over
end Go.Proofs.Ygcsan.modExpRec
