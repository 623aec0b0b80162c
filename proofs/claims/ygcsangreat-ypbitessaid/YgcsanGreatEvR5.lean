/-
  law.YpBites: the run at k = 5, by the kernel.
-/
import Derived.Test.YgcsanGreatEvQ
namespace Go.Ev
open Go.Proofs
theorem run9_5 : run9 Sang.prog Sang.f9 5 = true := by kernel_rfl
end Go.Ev
