/-
  law.YpBites: the run at k = 4, by the kernel.
-/
import Derived.Test.YgcsanGreatEvQ
namespace Go.Ev
theorem run9_4 : run9 4 = true := by kernel_rfl
end Go.Ev
