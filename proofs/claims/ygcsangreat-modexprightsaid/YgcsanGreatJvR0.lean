/-
  law.ModExpRight: the run in mode 0, by the kernel.
-/
import Derived.Test.YgcsanGreatJvQ
namespace Go.Jv
open Go.Proofs
theorem run3_0 : run3 Sang.prog Sang.f3 0 = true := by kernel_rfl
end Go.Jv
