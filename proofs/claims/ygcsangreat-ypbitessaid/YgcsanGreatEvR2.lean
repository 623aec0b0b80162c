/-
  law.YpBites: the run at k = 2, by the kernel.
-/
import Derived.Test.YgcsanGreatEvQ
namespace Go.Ev
open Go.Proofs
theorem run9_2 : run9 Sang.prog Sang.f9 2 = true := by kernel_rfl
end Go.Ev
