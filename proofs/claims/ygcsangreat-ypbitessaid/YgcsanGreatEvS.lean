/-
  law.YpBites, but for the runs themselves.
-/
import Derived.Test.YgcsanGreatEvQ
import Derived.WalkKit
import Derived.Below
namespace Go.Ev
open Go Go.Proofs Go.RowKit
set_option linter.unusedVariables false
set_option linter.unusedSimpArgs false

theorem body9_eq : Sang.f9.body = some (.seq (seqL (bodyOf Sang.f9)) (.seq (seqL (seqR (bodyOf Sang.f9))) (tailOf Sang.f9))) := by kernel_rfl

/-- where an operation stands in the text -/
def posAt (c : Code) (i : Nat) : String := match c with
  | .region _ ops _ => match ops[i]? with
    | some o => o.pos
    | none => default
  | _ => default

theorem ok9_some {r : Res} (h : ok9 r = true) : ∃ ex a h', r = some (ex, a, h') ∧ (ex = .normal ∨ ex = .ret) ∧ Ac.eval a (.tmp 2) = .bool true := by
  unfold ok9 at h
  split at h
  · exact ⟨_, _, _, rfl, .inl rfl, beqV_eq h⟩
  · exact ⟨_, _, _, rfl, .inr rfl, beqV_eq h⟩
  · cases h

theorem mixed : Sang.prog.follows .mixedOrders = true := by kernel_rfl

theorem HRel.first (w : World) : HRel w.heap.size (fun _ => none) ⟨0, .nil⟩ w :=
  ⟨Nat.le_refl _, (fun k b p z e => by cases e), (fun k x e => by cases e), (fun k b p z e => by cases e), (fun k l e => by cases e), (fun k k' b p p' z z' a1 => by cases a1)⟩

theorem head9 (k0 : Nat) (hk : k0 < 256) (X : Code) (Q : Exit → Act → World → Prop) (w : World)
    (hX : X.wp Sang.prog Q { tmps := [.int .u8 (k0 : Int), undef, .bool false, .int .u8 ((k0 : Int) % 8 + 1), undef, .int .u8 (k0 : Int), .int .u8 ((k0 : Int) % 8), .int .u8 ((k0 : Int) % 8 + 1)].toArray ++ Array.replicate (23 - 8) undef, defers := [] } w) :
    (Code.seq (seqL (bodyOf Sang.f9)) (.seq (seqL (seqR (bodyOf Sang.f9))) X)).wp Sang.prog Q { tmps := #[Value.int .u8 (k0 : Int)] ++ Array.replicate (23 - 1) undef, defers := [] } w := by
  have e0 : seqL (bodyOf Sang.f9) = Code.region 0 #[⟨some 2, .assign (.const (.bool false)), 4, posAt (seqL (bodyOf Sang.f9)) 0, #[], none⟩] false := by kernel_rfl
  have e1 : seqL (seqR (bodyOf Sang.f9)) = Code.region 1 #[⟨some 5, .move (.tmp 0), 5, posAt (seqL (seqR (bodyOf Sang.f9))) 0, #[], none⟩, ⟨some 6, .binOp .rem 5 (.tmp 5) (.const (.int .u8 8)) 5, 5, posAt (seqL (seqR (bodyOf Sang.f9))) 1, #[⟨0, .data⟩], none⟩,
      ⟨some 7, .binOp .add 5 (.tmp 6) (.const (.int .u8 1)) 5, 5, posAt (seqL (seqR (bodyOf Sang.f9))) 2, #[⟨1, .data⟩], none⟩, ⟨some 3, .assign (.tmp 7), 5, posAt (seqL (seqR (bodyOf Sang.f9))) 3, #[⟨2, .data⟩, ⟨0, .phase⟩, ⟨1, .phase⟩, ⟨2, .phase⟩], none⟩] false := by kernel_rfl
  generalize posAt (seqL (bodyOf Sang.f9)) 0 = p0 at e0
  generalize posAt (seqL (seqR (bodyOf Sang.f9))) 0 = p1 at e1
  generalize posAt (seqL (seqR (bodyOf Sang.f9))) 1 = p2 at e1
  generalize posAt (seqL (seqR (bodyOf Sang.f9))) 2 = p3 at e1
  generalize posAt (seqL (seqR (bodyOf Sang.f9))) 3 = p4 at e1
  rw [e0, e1]
  go_wp2
  exact hX

theorem walk9 (hr : ∀ k, 1 ≤ k → k ≤ 8 → run9 Sang.prog Sang.f9 k = true) (k0 : Nat) (hk : k0 < 256) (w : World) :
    Calls Sang.prog 9 #[.int .u8 (k0 : Int)] w fun e w' => e = .returned (.bool true) ∧ Below w.heap.size w w' := by
  have hrun := hr (k0 % 8 + 1) (by omega) (by omega)
  unfold run9 at hrun
  cases ht : fromList (start9 (k0 % 8 + 1)) 0 .nil with
  | none => rw [ht] at hrun; simp [from9] at hrun
  | some t =>
    rw [ht] at hrun
    simp only [from9] at hrun
    obtain ⟨ex, a', h', he, hex, hv⟩ := ok9_some hrun
    obtain ⟨m, hev⟩ := fCode_some _ _ _ _ _ he
    refine calls_of_wp Sang.func9 body9_eq ?_
    refine head9 k0 hk (tailOf Sang.f9) _ w ?_
    have hus : All2 (VRel fun _ => none) (start9 (k0 % 8 + 1)) [.int .u8 (k0 : Int), undef, .bool false, .int .u8 ((k0 : Int) % 8 + 1), undef, .int .u8 (k0 : Int), .int .u8 ((k0 : Int) % 8), .int .u8 ((k0 : Int) % 8 + 1)] := by
      have e : (k0 : Int) % 8 + 1 = Int.ofNat (k0 % 8 + 1) := by simp
      rw [e]
      exact .cons (.top _) (.cons .undef (.cons (.cell (.bool _)) (.cons (.cell (.int _ _)) (.cons .undef (.cons (.top _) (.cons (.top _) (.cons (.top _) .nil)))))))
    refine evCode_wp (fCall_ok mixed 60) mixed m (tailOf Sang.f9) t ⟨0, .nil⟩ _ _ w ex a' h' hev (HRel.first w) (ARel.start (N := 23) (by simp [start9]) hus ht) _ ?_
    rintro act' w' ⟨κ, K1, K2, K3⟩
    have hb : act'.tmps.getD 2 undef = .bool true := by
      have := K2.eval (.tmp 2)
      rw [hv] at this
      exact this.bool
    have hres : (results Sang.f9 act'.tmps).run Sang.prog w' = .ok (.bool true) w' := by
      have e : Sang.f9.results = #[.tmp 2] := by kernel_rfl
      rw [results_eq, e]
      simp [resOne]
      simpa using hb
    have hbel : Below w.heap.size w w' := ⟨K3.os, K3.tape, K3.output, K3.size, fun b hb => K3.frame b hb (fun k p z e => by cases e)⟩
    rcases hex with rfl | rfl
    · exact ⟨K2.defers, _, hres, rfl, hbel⟩
    · exact ⟨K2.defers, _, hres, rfl, hbel⟩
end Go.Ev
