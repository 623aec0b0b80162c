/-
  law.YpBites: the run at k = 7, by the kernel.
-/
import Derived.Test.YgcsanGreatEvQ
namespace Go.Ev
open Go.Proofs
theorem run9_7 : run9 Sang.prog Sang.f9 7 = true := by kernel_rfl
end Go.Ev
