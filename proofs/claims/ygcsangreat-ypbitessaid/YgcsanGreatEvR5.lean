/-
  law.YpBites: the run at k = 5, by the kernel.
-/
import Derived.Test.YgcsanGreatEvQ
namespace Go.Ev
theorem run9_5 : run9 5 = true := by kernel_rfl
end Go.Ev
