/-
  law.YpBites: the run at k = 6, by the kernel.
-/
import Derived.Test.YgcsanGreatEvQ
namespace Go.Ev
open Go.Proofs
theorem run9_6 : run9 Sang.prog Sang.f9 6 = true := by kernel_rfl
end Go.Ev
