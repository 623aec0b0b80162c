/-
  law.YpBites: the run at k = 3, by the kernel.
-/
import Derived.Test.YgcsanGreatEvQ
namespace Go.Ev
open Go.Proofs
theorem run9_3 : run9 Sang.prog Sang.f9 3 = true := by kernel_rfl
end Go.Ev
