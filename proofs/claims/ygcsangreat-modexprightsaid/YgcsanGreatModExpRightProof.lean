/-
  law.ModExpRight: the row.
-/
import Derived.Test.YgcsanGreatRows
import Derived.Test.YgcsanGreatJvZ
import Derived.Test.YgcsanGreatJvR0
import Derived.Test.YgcsanGreatJvR1
import Derived.Test.YgcsanGreatJvR2
import Derived.WalkKit
import Derived.ProofKit
import Derived.OpenShut
import Derived.ShutString
import Derived.ChangeOld
import Derived.Below
namespace Go.Proofs.YgcsanGreat.modExpRight
open Go.ChangeShapes Go.WideShapes Go.ChangeAt Go.RowKit
open Go.ChangeMaps (open_string shut_string)
set_option linter.unusedVariables false

theorem own : ownKnob Sang.prog.godebug = none := by kernel_rfl

theorem wf_u8 {n : Int} (h : (Lit.int .u8 n).wf = true) : 0 ≤ n ∧ n < 256 := by
  simp [Lit.wf] at h
  have e1 : IntKind.u8.min = 0 := rfl
  have e2 : IntKind.u8.max = 255 := rfl
  omega

theorem nat_u8 {n : Int} (h : (Lit.int .u8 n).wf = true) : ∃ k : Nat, n = (k : Int) ∧ k < 256 := by
  obtain ⟨h0, h1⟩ := wf_u8 h
  exact ⟨n.toNat, by omega, by omega⟩

/-- all the runs -/
theorem runs : ∀ md, md < 3 → Go.Jv.run3 Sang.prog Sang.f3 md = true := by
  intro md h
  have h3 : md = 0 ∨ md = 1 ∨ md = 2 := by omega
  rcases h3 with rfl | rfl | rfl
  · exact Go.Jv.run3_0
  · exact Go.Jv.run3_1
  · exact Go.Jv.run3_2

theorem walk (a0 a1 a2 a3 a4 a5 : Int) (w0 : (Lit.int .u8 a0).wf = true) (w1 : (Lit.int .u8 a1).wf = true) (w2 : (Lit.int .u8 a2).wf = true) (w3 : (Lit.int .u8 a3).wf = true) (w4 : (Lit.int .u8 a4).wf = true) (w5 : (Lit.int .u8 a5).wf = true) (w : World) :
    Calls Sang.prog 3 #[.int .u8 a0, .int .u8 a1, .int .u8 a2, .int .u8 a3, .int .u8 a4, .int .u8 a5] w fun e w' => e = .returned (.bool true) ∧ Below w.heap.size w w' := by
  obtain ⟨k0, rfl, h0⟩ := nat_u8 w0
  obtain ⟨k1, rfl, h1⟩ := nat_u8 w1
  obtain ⟨k2, rfl, h2⟩ := nat_u8 w2
  obtain ⟨k3, rfl, h3⟩ := nat_u8 w3
  obtain ⟨k4, rfl, h4⟩ := nat_u8 w4
  obtain ⟨k5, rfl, h5⟩ := nat_u8 w5
  exact Go.Jv.walk3 runs k0 k1 k2 k3 k4 k5 h0 h1 h2 h3 h4 h5 w

set_option maxRecDepth 100000 in
theorem lifted (os : Os) (started : os.Started) (H : Type) (enc : TypeId × Value → H) :
    ReturnsInHanded {} Sang.checked os 3 .any (Rows.modExpRightSpec.pre6 enc Sang.prog Sang.f3 Rows.modExpRightRow.domain false) (Rows.modExpRightSpec.post enc Sang.prog Sang.f3 false true false false) := by
  refine returnsInHanded_of_change (C := Sang.checked) own started (by kernel_rfl) Sang.func3
    (ChangeSpec.witness6 (enc := enc) (C := Sang.checked) false ⟨#[], #[.int .u8 0, .int .u8 0, .int .u8 0, .int .u8 0, .int .u8 0, .int .u8 0], []⟩ 8 (by kernel_rfl) (by kernel_rfl) (by kernel_rfl) (by kernel_rfl)) ?_
  intro W base args ds gs before hval0 hW hcnd _
  have hval : ∀ (j : Nat) t v, Sang.f3.params[j]? = some t → args[j]? = some v → Value.okWide Sang.prog W .any base t v := hval0
  have hW' := hW
  obtain ⟨p, q, hA0, hV, rfl, hfz, hnd⟩ := hW
  have hA : DataW.TrodAll enc Sang.prog W 0 (fun _ => true) true Sang.f3.params.toList args.toList ds p := hA0
  rw [Sang.params3] at hA hval
  obtain ⟨v0, vs0, d0, ds0, p0, q0, hargs, rfl, rfl, h0, r0⟩ := trodAll_cons hA
  obtain ⟨v1, vs1, d1, ds1, p1, q1, rfl, rfl, rfl, h1, r1⟩ := trodAll_cons r0
  obtain ⟨v2, vs2, d2, ds2, p2, q2, rfl, rfl, rfl, h2, r2⟩ := trodAll_cons r1
  obtain ⟨v3, vs3, d3, ds3, p3, q3, rfl, rfl, rfl, h3, r3⟩ := trodAll_cons r2
  obtain ⟨v4, vs4, d4, ds4, p4, q4, rfl, rfl, rfl, h4, r4⟩ := trodAll_cons r3
  obtain ⟨v5, vs5, d5, ds5, p5, q5, rfl, rfl, rfl, h5, r5⟩ := trodAll_cons r4
  obtain ⟨rfl, rfl, rfl⟩ := trodAll_nil r5
  obtain rfl : args = #[v0, v1, v2, v3, v4, v5] := by cases args; simp_all
  obtain ⟨rfl, rfl⟩ := trodVars_none hV
  obtain ⟨a0, rfl, rfl, rfl, w0⟩ := open_int Sang.underlying5 (hval 0 5 v0 rfl rfl) h0
  obtain ⟨a1, rfl, rfl, rfl, w1⟩ := open_int Sang.underlying5 (hval 1 5 v1 rfl rfl) h1
  obtain ⟨a2, rfl, rfl, rfl, w2⟩ := open_int Sang.underlying5 (hval 2 5 v2 rfl rfl) h2
  obtain ⟨a3, rfl, rfl, rfl, w3⟩ := open_int Sang.underlying5 (hval 3 5 v3 rfl rfl) h3
  obtain ⟨a4, rfl, rfl, rfl, w4⟩ := open_int Sang.underlying5 (hval 4 5 v4 rfl rfl) h4
  obtain ⟨a5, rfl, rfl, rfl, w5⟩ := open_int Sang.underlying5 (hval 5 5 v5 rfl rfl) h5
  clear hA0 hval0
  refine (walk a0 a1 a2 a3 a4 a5 w0 w1 w2 w3 w4 w5 W).mono fun e W' ⟨he, bel⟩ => ?_
  subst he
  exact ⟨_, rfl, _, _, _, [], _, [], hW', trodAll_mk1 (shut_bool Sang.underlying4 _), (trodAll_cons_mk (shut_int Sang.underlying5 w0) (trodAll_cons_mk (shut_int Sang.underlying5 w1) (trodAll_cons_mk (shut_int Sang.underlying5 w2) (trodAll_cons_mk (shut_int Sang.underlying5 w3) (trodAll_cons_mk (shut_int Sang.underlying5 w4) (trodAll_cons_mk (shut_int Sang.underlying5 w5) trodAll_mk0)))))), rfl, bel.frame _, fun h => by cases h⟩

theorem over : Rows.modExpRightRow.holds Sang.pinned (OpenSpec.ofChange Rows.modExpRightSpec) :=
  OpenClaim.holds_of_wide 3 Sang.f3 rfl rfl rfl rfl rfl rfl rfl ⟨rfl, rfl, rfl, rfl, rfl⟩ rfl rfl rfl rfl rfl (by kernel_rfl) Sang.func3 (by kernel_rfl)
    (of_decide_eq_true (by kernel_rfl)) (by unfold Func.isWrapper; first | (rw [if_pos (by decide +kernel)]; kernel_rfl) | (rw [if_neg (by decide +kernel)]; exact ⟨rfl, rfl⟩))
    (fun os started H enc _ => lifted os started H enc)

/-- THE STATEMENT -/
theorem proved : Rows.ModExpRightSaid := over
end Go.Proofs.YgcsanGreat.modExpRight
