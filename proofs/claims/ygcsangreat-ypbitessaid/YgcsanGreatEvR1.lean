/-
  law.YpBites: the run at k = 1, by the kernel.
-/
import Derived.Test.YgcsanGreatEvQ
namespace Go.Ev
theorem run9_1 : run9 1 = true := by kernel_rfl
end Go.Ev
