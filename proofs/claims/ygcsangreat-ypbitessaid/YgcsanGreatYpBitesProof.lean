/-
  The statement 'Rows.YpBitesSaid' (law.YpBites), out of the runs at k = 1 .. 8.
-/
import Derived.Test.YgcsanGreatEvS
import Derived.Test.YgcsanGreatEvR1
import Derived.Test.YgcsanGreatEvR2
import Derived.Test.YgcsanGreatEvR3
import Derived.Test.YgcsanGreatEvR4
import Derived.Test.YgcsanGreatEvR5
import Derived.Test.YgcsanGreatEvR6
import Derived.Test.YgcsanGreatEvR7
import Derived.Test.YgcsanGreatEvR8
import Derived.Test.YgcsanGreatRows
import Derived.WalkKit
import Derived.ProofKit
import Derived.OpenShut
import Derived.ShutString
import Derived.ChangeOld
import Derived.Below
namespace Go.Proofs.YgcsanGreat.ypBites
open Go.ChangeShapes Go.WideShapes Go.ChangeAt Go.RowKit
open Go.ChangeMaps (open_string shut_string)
set_option linter.unusedVariables false

theorem own : ownKnob Sang.prog.godebug = none := by kernel_rfl

theorem runs (k : Nat) (h1 : 1 ≤ k) (h2 : k ≤ 8) : Go.Ev.run9 Sang.prog Sang.f9 k = true := by
  have : k = 1 ∨ k = 2 ∨ k = 3 ∨ k = 4 ∨ k = 5 ∨ k = 6 ∨ k = 7 ∨ k = 8 := by omega
  rcases this with rfl | rfl | rfl | rfl | rfl | rfl | rfl | rfl
  · exact Go.Ev.run9_1
  · exact Go.Ev.run9_2
  · exact Go.Ev.run9_3
  · exact Go.Ev.run9_4
  · exact Go.Ev.run9_5
  · exact Go.Ev.run9_6
  · exact Go.Ev.run9_7
  · exact Go.Ev.run9_8

theorem wf_u8 {n : Int} (h : (Lit.int .u8 n).wf = true) : 0 ≤ n ∧ n < 256 := by
  simp [Lit.wf] at h
  have e1 : IntKind.u8.min = 0 := rfl
  have e2 : IntKind.u8.max = 255 := rfl
  omega

theorem walk (a0 : Int) (w0 : (Lit.int .u8 a0).wf = true) (w : World) :
    Calls Sang.prog 9 #[.int .u8 a0] w fun e w' => e = .returned (.bool true) ∧ Below w.heap.size w w' := by
  obtain ⟨h0, h1⟩ := wf_u8 w0
  obtain ⟨k0, rfl⟩ : ∃ k : Nat, a0 = (k : Int) := ⟨a0.toNat, by omega⟩
  exact Go.Ev.walk9 runs k0 (by omega) w

set_option maxRecDepth 100000 in
theorem lifted (os : Os) (started : os.Started) (H : Type) (enc : TypeId × Value → H) :
    ReturnsInHanded {} Sang.checked os 9 .any (Rows.ypBitesSpec.pre6 enc Sang.prog Sang.f9 Rows.ypBitesRow.domain false) (Rows.ypBitesSpec.post enc Sang.prog Sang.f9 false true false false) := by
  refine returnsInHanded_of_change (C := Sang.checked) own started (by kernel_rfl) Sang.func9
    (ChangeSpec.witness6 (enc := enc) (C := Sang.checked) false ⟨#[], #[.int .u8 0], []⟩ 8 (by kernel_rfl) (by kernel_rfl) (by kernel_rfl) (by kernel_rfl)) ?_
  intro W base args ds gs before hval0 hW hcnd _
  have hval : ∀ (j : Nat) t v, Sang.f9.params[j]? = some t → args[j]? = some v → Value.okWide Sang.prog W .any base t v := hval0
  have hW' := hW
  obtain ⟨p, q, hA0, hV, rfl, hfz, hnd⟩ := hW
  have hA : DataW.TrodAll enc Sang.prog W 0 (fun _ => true) true Sang.f9.params.toList args.toList ds p := hA0
  rw [Sang.params9] at hA hval
  obtain ⟨v0, vs0, d0, ds0, p0, q0, hargs, rfl, rfl, h0, r0⟩ := trodAll_cons hA
  obtain ⟨rfl, rfl, rfl⟩ := trodAll_nil r0
  obtain rfl : args = #[v0] := by cases args; simp_all
  obtain ⟨rfl, rfl⟩ := trodVars_none hV
  obtain ⟨a0, rfl, rfl, rfl, w0⟩ := open_int Sang.underlying5 (hval 0 5 v0 rfl rfl) h0
  clear hA0 hval0
  refine (walk a0 w0 W).mono fun e W' ⟨he, bel⟩ => ?_
  subst he
  exact ⟨_, rfl, _, _, _, [], _, [], hW', trodAll_mk1 (shut_bool Sang.underlying4 _), (trodAll_cons_mk (shut_int Sang.underlying5 w0) trodAll_mk0), rfl, bel.frame _, fun h => by cases h⟩

theorem over : Rows.ypBitesRow.holds Sang.pinned (OpenSpec.ofChange Rows.ypBitesSpec) :=
  OpenClaim.holds_of_wide 9 Sang.f9 rfl rfl rfl rfl rfl rfl rfl ⟨rfl, rfl, rfl, rfl, rfl⟩ rfl rfl rfl rfl rfl (by kernel_rfl) Sang.func9 (by kernel_rfl)
    (of_decide_eq_true (by kernel_rfl)) (by unfold Func.isWrapper; first | (rw [if_pos (by decide +kernel)]; kernel_rfl) | (rw [if_neg (by decide +kernel)]; exact ⟨rfl, rfl⟩))
    (fun os started H enc _ => lifted os started H enc)

/-- THE STATEMENT -/
theorem proved : Rows.YpBitesSaid :=
  over
end Go.Proofs.YgcsanGreat.ypBites
