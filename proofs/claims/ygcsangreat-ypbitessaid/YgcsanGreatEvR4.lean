/-
  law.YpBites: the run at k = 4, by the kernel.
-/
import Derived.Test.YgcsanGreatEvQ
namespace Go.Ev
open Go.Proofs
theorem run9_4 : run9 Sang.prog Sang.f9 4 = true := by kernel_rfl
end Go.Ev
