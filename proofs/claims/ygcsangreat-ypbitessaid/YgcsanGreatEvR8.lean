/-
  law.YpBites: the run at k = 8, by the kernel.
-/
import Derived.Test.YgcsanGreatEvQ
namespace Go.Ev
theorem run9_8 : run9 8 = true := by kernel_rfl
end Go.Ev
