/-
  law.ModExpRight: the run in mode 1, by the kernel.
-/
import Derived.Test.YgcsanGreatJvQ
namespace Go.Jv
open Go.Proofs
theorem run3_1 : run3 Sang.prog Sang.f3 1 = true := by kernel_rfl
end Go.Jv
