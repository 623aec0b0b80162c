/-
  Frames of which a walk knows but a few slots.
-/
import Derived.Test.YgcsanRowLaw
namespace Go.Proofs.Ygcsan
open Go.RowKit
set_option linter.unusedSimpArgs false
set_option linter.unusedVariables false

theorem eval_put_same {a : Act} {s : Tmp} {v : Value} (h : s < a.tmps.size) : (a.put (some s) v).eval (.tmp s) = v := by
  simp [Act.put, Act.eval, h]
theorem eval_put_ne {a : Act} {s t : Tmp} {v : Value} (h : s ≠ t) : (a.put (some s) v).eval (.tmp t) = a.eval (.tmp t) := by
  simp [Act.put, Act.eval, Array.getElem?_setIfInBounds_ne h]
theorem put_none {a : Act} {v : Value} : a.put none v = a := rfl
theorem size_put {a : Act} {s : Option Tmp} {v : Value} : (a.put s v).tmps.size = a.tmps.size := by
  cases s <;> simp [Act.put]
theorem defers_put {a : Act} {s : Option Tmp} {v : Value} : (a.put s v).defers = a.defers := by
  cases s <;> simp [Act.put]
theorem getD_eval (a : Act) (t : Tmp) : a.tmps.getD t undef = a.eval (.tmp t) := by
  simp [Act.eval]

theorem frame_abs {p : Act → Prop} (a : Act) (N : Nat) (x0 x4 x5 : Value) (h0 : a.eval (.tmp 0) = x0) (h4 : a.eval (.tmp 4) = x4) (h5 : a.eval (.tmp 5) = x5) (hn : a.tmps.size = N) (hd : a.defers = [])
    (H : ∀ b : Act, b.eval (.tmp 0) = x0 → b.eval (.tmp 4) = x4 → b.eval (.tmp 5) = x5 → b.tmps.size = N → b.defers = [] → p b) : p a := H a h0 h4 h5 hn hd

theorem frame_abs3 {p : Act → Prop} (a : Act) (N : Nat) (s1 s2 s3 : Tmp) (x1 x2 x3 : Value) (hn : a.tmps.size = N) (hd : a.defers = []) (h1 : a.eval (.tmp s1) = x1) (h2 : a.eval (.tmp s2) = x2) (h3 : a.eval (.tmp s3) = x3)
    (H : ∀ b : Act, b.eval (.tmp s1) = x1 → b.eval (.tmp s2) = x2 → b.eval (.tmp s3) = x3 → b.tmps.size = N → b.defers = [] → p b) : p a := H a h1 h2 h3 hn hd
end Go.Proofs.Ygcsan
