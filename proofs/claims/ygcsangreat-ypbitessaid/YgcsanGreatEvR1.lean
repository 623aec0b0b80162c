/-
  law.YpBites: the run at k = 1, by the kernel.
-/
import Derived.Test.YgcsanGreatEvQ
namespace Go.Ev
open Go.Proofs
theorem run9_1 : run9 Sang.prog Sang.f9 1 = true := by kernel_rfl
end Go.Ev
