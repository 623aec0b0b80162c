/-
  law.YpBites: the run at k = 3, by the kernel.
-/
import Derived.Test.YgcsanGreatEvQ
namespace Go.Ev
theorem run9_3 : run9 3 = true := by kernel_rfl
end Go.Ev
