/-
  law.YpBites: the run at k = 2, by the kernel.
-/
import Derived.Test.YgcsanGreatEvQ
namespace Go.Ev
theorem run9_2 : run9 2 = true := by kernel_rfl
end Go.Ev
