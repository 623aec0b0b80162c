/-
  law.ModExpRight: the run in mode 2, by the kernel.
-/
import Derived.Test.YgcsanGreatJvQ
namespace Go.Jv
open Go.Proofs
theorem run3_2 : run3 Sang.prog Sang.f3 2 = true := by kernel_rfl
end Go.Jv
