/-
  law.YpBites: the run at k = 8, by the kernel.
-/
import Derived.Test.YgcsanGreatEvQ
namespace Go.Ev
open Go.Proofs
theorem run9_8 : run9 Sang.prog Sang.f9 8 = true := by kernel_rfl
end Go.Ev
